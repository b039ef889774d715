/- The helpers of the laws of layer 17: few, act, model, is and awake, walked. -/
import Derived.Test.YtcgdkfhfchkdlaaTapI
import Derived.Test.YtcgdkfhfchkdlaaActsW
namespace Go.Proofs.Ytcgdkfhfchkdlaa
open Go.RowKit TapM
def FewP (L : List TAct) (k : Nat) : Prop := k ≤ 61 ∧ ∀ j (h : j < L.length), j < k → L[j].l.length ≤ 300
/-- Are there few acts, of few bytes? -/
noncomputable def fewB (L : List TAct) : Bool := @decide (FewP L L.length) (Classical.propDecidable _)
theorem fewB_yes {L : List TAct} (h : FewP L L.length) : fewB L = true := by unfold fewB; simp [h]
theorem fewB_no {L : List TAct} (h : ¬ FewP L L.length) : fewB L = false := by unfold fewB; simp [h]
theorem few_any (A : Option Addr) (n c : Nat) (L : List TAct) (w : World) (hL : Acts w A n L) (hn : n ≤ 9223372036854775807) :
    Calls Try.prog 50 #[.slice A n c] w fun e w' => e = .returned (.bool (fewB L)) ∧ w = w' := by
  obtain ⟨hl, hA⟩ := hL
  subst hl
  go_enter Try.func50, Try.ntmps50
  go_wp2
  go_loop [3, 6] (fun v3 v6 => ∃ k : Nat, k ≤ L.length ∧ v6 = .int .i64 k ∧ Hid (FewP L k)) (fun _ v6 => L.length - (intOf v6).toNat)
  case atStart => exact ⟨0, by omega, rfl, by omega, fun j _ h => absurd h (by omega)⟩
  case round =>
    obtain ⟨k, hk, rfl, hf⟩ := hrel
    by_cases hkn : k < L.length
    · obtain ⟨b, o, rfl, hc⟩ := hA.resolve_left (by omega)
      obtain ⟨_, ⟨A', c', h1, _, _⟩, _⟩ := hc k hkn
      have i0 : (k : Int) < (L.length : Int) := by omega
      by_cases h60 : k ≤ 60
      · by_cases h300 : L[k].l.length ≤ 300
        · have HF : Hid (FewP L (k + 1)) := by
            refine ⟨by omega, fun j hj hjk => ?_⟩
            by_cases hjk' : j < k
            · exact hf.out.2 j hj hjk'
            · obtain rfl : j = k := by omega
              exact h300
          generalize L[k].l.length = m at *
          go_wp2
          exact ⟨⟨k + 1, by omega, by go_num, HF⟩, by simp [intOf]; omega⟩
        · have HN : fewB L = false := fewB_no fun h => h300 (h.2 k hkn hkn)
          generalize L[k].l.length = m at *
          go_wp2
          go_ret
          exact ⟨rfl, rfl⟩
      · have HN : fewB L = false := fewB_no fun h => by have := h.1; omega
        clear h1
        go_wp2
        go_ret
        exact ⟨rfl, rfl⟩
    · obtain rfl : k = L.length := by omega
      have HY : fewB L = true := fewB_yes hf.out
      go_wp2
      go_ret
      exact ⟨rfl, rfl⟩
/-! ### act -/
theorem Turned.after {w w1 w' : World} {p : Nat} {s s' : TS} (h : TapeAt w p s) (hb : Below w.heap.size w w1) (ht : Turned w1 w' p s') : Turned w w' p s' := by
  refine ⟨ht.tape, only_trans (only_of hb _) ht.only, fun g hlt hold => ht.keeps g (Nat.lt_of_lt_of_le hlt hb.size) fun v hv => hold v ?_⟩
  rw [← hv]
  exact (hb.cell (p := ⟨p, 1, none⟩) h.lt).symm
theorem TapeAt.alloc {w : World} {p : Nat} {s : TS} (h : TapeAt w p s) (o : Obj) : TapeAt (w.alloc o) p s := h.below ((Below.refl _ _).alloc (Nat.le_refl _) o)
theorem kind_yes {k : UInt8} {m : UInt8} (h : k = m) : ((k.toNat : Int) == (m.toNat : Int)) = true := by rw [h]; simp
theorem kind_no {k : UInt8} {m : UInt8} (h : ¬ k = m) : ((k.toNat : Int) == (m.toNat : Int)) = false := by
  rw [beq_eq_false_iff_ne]
  intro e
  exact h (UInt8.toNat_inj.1 (by omega))
theorem act_0 {s : TS} {a : TAct} (h : a.kind = 0) : s.act a = s.append a.l := by unfold TS.act; rw [if_pos h]
theorem act_1 {s : TS} {a : TAct} (h : a.kind = 1) : s.act a = s.sync := by unfold TS.act; rw [if_neg (by rw [h]; decide), if_pos h]
theorem act_2 {s : TS} {a : TAct} (h : a.kind = 2) : s.act a = s.replace a.l := by unfold TS.act; rw [if_neg (by rw [h]; decide), if_neg (by rw [h]; decide), if_pos h]
theorem act_3 {s : TS} {a : TAct} (h : a.kind = 3) : s.act a = s.arm a.n := by unfold TS.act; rw [if_neg (by rw [h]; decide), if_neg (by rw [h]; decide), if_neg (by rw [h]; decide), if_pos h]
theorem act_4 {s : TS} {a : TAct} (h0 : ¬ a.kind = 0) (h1 : ¬ a.kind = 1) (h2 : ¬ a.kind = 2) (h3 : ¬ a.kind = 3) : s.act a = (s.restart a.n a.y, 0) := by unfold TS.act; rw [if_neg h0, if_neg h1, if_neg h2, if_neg h3]
set_option maxHeartbeats 1600000 in
theorem act_any (p : Nat) (s : TS) (a : TAct) (A : Option Addr) (c : Nat) (w : World) (h : TapeAt w p s) (hl : Bs w A a.l.length a.l) (hn : a.n ≤ 9223372036854775807) :
    Calls Try.prog 53 #[.pointer (some ⟨p, 0, none⟩), .agg #[.int .u8 (a.kind.toNat : Int), .slice A a.l.length c, .int .i64 a.n, .int .u8 (a.y.toNat : Int)]] w fun e w' => e = .returned (.int .i64 ((s.act a).2 : Nat)) ∧ Turned w w' p (s.act a).1 := by
  have hb := (Below.refl w.heap.size w).alloc (Nat.le_refl _) (.cells #[.int .u8 (a.kind.toNat : Int), .slice A a.l.length c, .int .i64 a.n, .int .u8 (a.y.toNat : Int)] 71)
  by_cases h0 : a.kind = 0
  · rw [act_0 h0]
    have k0 : ((a.kind.toNat : Int) == 0) = true := kind_yes h0
    clear h0
    go_enter Try.func53, Try.ntmps53
    go_wp2_with (go_at_call 64; refine (append_any p s A _ c a.l _ (h.alloc _) (hl.alloc _)).mono ?_; rintro e w1 ⟨rfl, ht⟩)
    go_ret
    exact ⟨rfl, ht.after h hb⟩
  · have k0 : ((a.kind.toNat : Int) == 0) = false := kind_no h0
    by_cases h1 : a.kind = 1
    · rw [act_1 h1]
      have k1 : ((a.kind.toNat : Int) == 1) = true := kind_yes h1
      clear h0 h1
      go_enter Try.func53, Try.ntmps53
      go_wp2_with (go_at_call 56; refine (sync_any p s _ (h.alloc _)).mono ?_; rintro e w1 ⟨rfl, ht⟩)
      go_ret
      exact ⟨rfl, ht.after h hb⟩
    · have k1 : ((a.kind.toNat : Int) == 1) = false := kind_no h1
      by_cases h2 : a.kind = 2
      · rw [act_2 h2]
        have k2 : ((a.kind.toNat : Int) == 2) = true := kind_yes h2
        clear h0 h1 h2
        go_enter Try.func53, Try.ntmps53
        go_wp2_with (go_at_call 65; refine (replace_any p s A _ c a.l _ (h.alloc _) (hl.alloc _)).mono ?_; rintro e w1 ⟨rfl, ht⟩)
        go_ret
        exact ⟨rfl, ht.after h hb⟩
      · have k2 : ((a.kind.toNat : Int) == 2) = false := kind_no h2
        by_cases h3 : a.kind = 3
        · rw [act_3 h3]
          have k3 : ((a.kind.toNat : Int) == 3) = true := kind_yes h3
          clear h0 h1 h2 h3
          go_enter Try.func53, Try.ntmps53
          go_wp2_with (go_at_call 52; refine (fuse_any p s a.n _ (h.alloc _) hn).mono ?_; rintro e w1 ⟨rfl, ht⟩)
          go_ret
          exact ⟨rfl, ht.after h hb⟩
        · rw [act_4 h0 h1 h2 h3]
          have k3 : ((a.kind.toNat : Int) == 3) = false := kind_no h3
          clear h0 h1 h2 h3
          go_enter Try.func53, Try.ntmps53
          go_wp2_with (go_at_call 55; refine (restart_any p s a.n a.y _ (h.alloc _)).mono ?_; rintro e w1 ⟨rfl, ht⟩)
          go_ret
          exact ⟨rfl, ht.after h hb⟩
end Go.Proofs.Ytcgdkfhfchkdlaa
