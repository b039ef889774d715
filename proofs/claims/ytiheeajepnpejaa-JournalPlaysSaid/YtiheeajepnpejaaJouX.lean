/- on and few of the laws of layer 18, walked; the reference's Open, joined. -/
import Derived.Test.YtiheeajepnpejaaJouV
namespace Go.Proofs.Ytiheeajepnpejaa
open Go.RowKit TapM FrameM JouM
/-- Open of the reference, whatever is on the tape. -/
theorem refopen_any (B : Nat) (s : TS) (A : Option Addr) (c : Nat) (X : Option Addr) (m d : Nat) (base : List UInt8) (w : World) (hok : s.Ok) (ho : Own w B (.slice A s.b.length c) s.b) (hb : Bs w X m base) (hs : s.b.length ≤ 1000000) (hB : B ≤ w.heap.size) :
    Calls Try.prog 30 #[.agg #[.int .i64 (s.cap : Int), .slice A s.b.length c, .int .i64 (s.safe : Int), .int .i64 s.fuse, .bool s.lost], .slice X m d] w (RefOpened w B (opened s base)) := by
  by_cases hm : 60000 < m
  · exact refopen_long B s A c X m d base w ho hb hm
  · cases hl : s.lost with
    | true => have := refopen_lost B s A c X m d base w ho hb hm hl; rw [hl] at this; exact this
    | false => have := refopen_main B s A c X m d base w hok ho hb hm hl hs hB; rw [hl] at this; exact this
set_option maxHeartbeats 1600000 in
theorem on_any (p : Nat) (s : TS) (A : Option Addr) (c : Nat) (w : World) (h : TapeAt w p s) (hb : Bs w A s.b.length s.b) :
    Calls Try.prog 22 #[.pointer (some ⟨p, 0, none⟩), .agg #[.int .i64 (s.cap : Int), .slice A s.b.length c, .int .i64 (s.safe : Int), .int .i64 s.fuse, .bool s.lost]] w fun e w' => e = .returned (.bool true) ∧ Below w.heap.size w w' := by
  have n1 : ((s.safe : Int) == (s.safe : Int)) = true := by simp
  have n2 : ((s.b.length : Int) == (s.b.length : Int)) = true := by simp
  cases hl : s.lost with
  | true =>
    have HS := Lib.hid (fun W hW => safe_q p s W hW)
    have HL := Lib.hid (fun W hW => len_q p s W hW)
    have HO := Lib.hid (fun W hW => lost_q p s W hW)
    rw [hl] at HO
    have HR := Lib.hid (fun W hW => read_lost p s W hW hl)
    have hW := h.alloc (.cells #[.int .i64 (s.cap : Int), .slice A s.b.length c, .int .i64 (s.safe : Int), .int .i64 s.fuse, .bool true] 30)
    clear hl
    go_enter Try.func22, Try.ntmps22
    go_wp2_with (go_at_call 38; refine (HR.out _ hW).mono ?_; rintro e w1 ⟨rfl, rfl⟩)
    go_quiet ((first | (go_at_call 24; exact q_of (HS.out _ (hW.drewN _))) | (go_at_call 11; exact q_of (HL.out _ (hW.drewN _))) | (go_at_call 39; exact q_of (HO.out _ (hW.drewN _)))))
    go_wp2
    go_ret
    exact ⟨by simp, below_drewN (bl_alloc (Below.refl _ w) _) _⟩
  | false =>
    have HS := Lib.hid (fun W hW => safe_q p s W hW)
    have HL := Lib.hid (fun W hW => len_q p s W hW)
    have HO := Lib.hid (fun W hW => lost_q p s W hW)
    rw [hl] at HO
    have HR := Lib.hid (fun W hW => read_on p s W hW hl)
    have hW := h.alloc (.cells #[.int .i64 (s.cap : Int), .slice A s.b.length c, .int .i64 (s.safe : Int), .int .i64 s.fuse, .bool false] 30)
    clear hl
    go_enter Try.func22, Try.ntmps22
    go_wp2_with (go_at_call 38; refine (HR.out _ hW).mono ?_; rintro e w2 ⟨A2, c2, rfl, hown, hb2⟩; have hW2 := hW.below hb2; obtain ⟨d0, d1, d2, d3, d4, f1⟩ := five ((Cells.new w 30 _).below hb2); have s1 := run_str c2 hown.bs; have s2 := run_str c ((hb.alloc _).below hb2); have hbw : Below w.heap.size w w2 := (bl_alloc (Below.refl _ w) _).trans (hb2.mono (by simp)))
    generalize hS : (⟨s.b.toArray⟩ : ByteArray) = S at s1 s2
    clear hS
    go_quiet ((first | (go_at_call 24; exact q_of (HS.out _ (hW2.drewN _))) | (go_at_call 11; exact q_of (HL.out _ (hW2.drewN _))) | (go_at_call 39; exact q_of (HO.out _ (hW2.drewN _)))))
    go_wp2
    go_ret
    exact ⟨by simp, below_drewN hbw _⟩
def FewP18 (L : List TAct) (k : Nat) : Prop := k ≤ 31 ∧ ∀ j (h : j < L.length), j < k → L[j].l.length ≤ 300
/-- Are there few acts, of few bytes? -/
noncomputable def fewB18 (L : List TAct) : Bool := @decide (FewP18 L L.length) (Classical.propDecidable _)
theorem fewB18_yes {L : List TAct} (h : FewP18 L L.length) : fewB18 L = true := by unfold fewB18; simp [h]
theorem fewB18_no {L : List TAct} (h : ¬ FewP18 L L.length) : fewB18 L = false := by unfold fewB18; simp [h]
theorem few18_any (A : Option Addr) (n c : Nat) (L : List TAct) (w : World) (hL : Acts w A n L) (hn : n ≤ 9223372036854775807) :
    Calls Try.prog 12 #[.slice A n c] w fun e w' => e = .returned (.bool (fewB18 L)) ∧ w = w' := by
  obtain ⟨hl, hA⟩ := hL
  subst hl
  go_enter Try.func12, Try.ntmps12
  go_wp2
  go_loop [3, 6] (fun v3 v6 => ∃ k : Nat, k ≤ L.length ∧ v6 = .int .i64 k ∧ Hid (FewP18 L k)) (fun _ v6 => L.length - (intOf v6).toNat)
  case atStart => exact ⟨0, by omega, rfl, by omega, fun j _ h => absurd h (by omega)⟩
  case round =>
    obtain ⟨k, hk, rfl, hf⟩ := hrel
    by_cases hkn : k < L.length
    · obtain ⟨b, o, rfl, hc⟩ := hA.resolve_left (by omega)
      obtain ⟨_, ⟨A', c', h1, _, _⟩, _⟩ := hc k hkn
      have i0 : (k : Int) < (L.length : Int) := by omega
      by_cases h60 : k ≤ 30
      · by_cases h300 : L[k].l.length ≤ 300
        · have HF : Hid (FewP18 L (k + 1)) := by
            refine ⟨by omega, fun j hj hjk => ?_⟩
            by_cases hjk' : j < k
            · exact hf.out.2 j hj hjk'
            · obtain rfl : j = k := by omega
              exact h300
          generalize L[k].l.length = m at *
          go_wp2
          exact ⟨⟨k + 1, by omega, by go_num, HF⟩, by simp [intOf]; omega⟩
        · have HN : fewB18 L = false := fewB18_no fun h => h300 (h.2 k hkn hkn)
          generalize L[k].l.length = m at *
          go_wp2
          go_ret
          exact ⟨rfl, rfl⟩
      · have HN : fewB18 L = false := fewB18_no fun h => by have := h.1; omega
        clear h1
        go_wp2
        go_ret
        exact ⟨rfl, rfl⟩
    · obtain rfl : k = L.length := by omega
      have HY : fewB18 L = true := fewB18_yes hf.out
      go_wp2
      go_ret
      exact ⟨rfl, rfl⟩
end Go.Proofs.Ytiheeajepnpejaa
