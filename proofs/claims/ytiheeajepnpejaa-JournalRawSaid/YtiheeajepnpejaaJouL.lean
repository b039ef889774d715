/- The law JournalRaw of layer 18, walked: it answers true, whatever bytes lie on the tape. -/
import Derived.Test.YtiheeajepnpejaaJouZ
namespace Go.Proofs.Ytiheeajepnpejaa
open Go.RowKit TapM FrameM JouM
theorem raw_new (l : List UInt8) (h : l.length ≤ 3000) : (TS.new (3000 : Int).toNat).replace l = (⟨3000, l, l.length, -1, false⟩, 0) := by
  unfold TS.replace
  rw [if_neg (by simp [TS.new]), if_neg (by show ¬ (3000 : Int).toNat < l.length; omega), if_neg (by simp [TS.new])]
  rfl
theorem raw_ref (A : Option Addr) (n c : Nat) (l : List UInt8) (w : World) (hb : Bs w A n l) (h : l.length ≤ 3000) :
    Calls Try.prog 9 #[.agg #[.int .i64 3000, .slice none 0 0, .int .i64 0, .int .i64 (-1), .bool false], .slice A n c] w (RefTo w w.heap.size none 0 (⟨3000, l, l.length, -1, false⟩, 0)) := by
  have := refreplace_any w.heap.size (TS.new (3000 : Int).toNat) none 0 A n c l w (TS.Ok.new (by decide)) (Own.nil _ _) hb (Nat.le_refl _)
  rw [raw_new l h] at this
  exact this
theorem tape_bs {w w' : World} {p n : Nat} {s : TS} {A : Option Addr} {l : List UInt8} (h : TapeAt w p s) (hb : Bs w A n l) (hg : w.grownBy w' (some p)) : Bs w' A n l :=
  hb.only hg (by obtain ⟨_, _, hC, _⟩ := h.open_; exact hb.ne_tape hC)
set_option maxRecDepth 100000 in
set_option maxHeartbeats 3200000 in
theorem journalRaw_law (A : Option Addr) (n c : Nat) (l : List UInt8) (X : Option Addr) (m d : Nat) (base : List UInt8) (w : World) (hl : Bs w A n l) (hb : Bs w X m base) :
    Calls Try.prog 3 #[.slice A n c, .slice X m d] w fun e w' => e = .returned (.bool true) ∧ Below w.heap.size w w' := by
  have hll := hl.1
  by_cases hn : n ≤ 3000
  · by_cases hm : m ≤ 3000
    · have hok1 : (⟨3000, l, l.length, -1, false⟩ : TS).Ok := ⟨Nat.le_refl _, by show l.length ≤ 3000; omega, (show 3000 ≤ 1048576 by decide), (show (-1 : Int) ≤ -1 by decide), (show (-1 : Int) ≤ 9223372036854775807 by decide)⟩
      have HRp := Lib.hid (fun p W h hb => replace_any p (TS.new (3000 : Int).toNat) A n c l W h hb)
      rw [raw_new l (by omega)] at HRp
      have HRr := Lib.hid (fun W hb => raw_ref A n c l W hb (by omega))
      obtain ⟨s1, hs1⟩ : ∃ s1 : TS, s1 = ⟨3000, l, l.length, -1, false⟩ := ⟨_, rfl⟩
      have hf1 : s1.fuse ≠ 0 := by rw [hs1]; show (-1 : Int) ≠ 0; decide
      have hlen : s1.b.length = n := by rw [hs1]; exact hll
      have HLen := Lib.hid hlen
      rw [← hs1] at HRp HRr hok1
      have hc1 : s1.cap = 3000 := by rw [hs1]
      clear hs1
      have HOp := Lib.hid (fun p A2 c2 W hT ho hb hB => opens_any w.heap.size p s1 A2 c2 X m d base W hT ho hb (by omega) hB)
      have hok2 := (JouM.opened_ok hok1 base).1
      have hcap2 := (JouM.opened_ok hok1 base).2
      have hre := Lib.hid (opened_refuse s1 base hf1)
      generalize opened s1 base = r at HOp hok2 hcap2 hre
      obtain ⟨s2, L, er⟩ := r
      have hb2 : s2.b.length ≤ 3000 := by have := hok2.bc; simp only at this hcap2; omega
      have HO2 := Lib.hid (fun p A2 c2 W hT ho hB => opens_any w.heap.size p s2 A2 c2 none 0 0 [] W hT ho (Bs.nil _ _) (by omega) hB)
      have HLN := Lib.hid (fun p W h => len_any p s2 W h)
      clear hll hlen hc1 hcap2 hf1 hok1
      go_enter Try.func3, Try.ntmps3
      go_wp2_with (first
        | (go_at_call 5; refine (awake18_any _).mono ?_; rintro e w1 ⟨rfl, hb1⟩)
        | (go_at_call 6; refine (new_at 3000 (by omega) (by omega) _).mono ?_; rintro e w2 ⟨p, rfl, hp, hT, hb2'⟩)
        | (go_at_call 7; refine (HRp.out p _ hT ((hl.below hb1).below hb2')).mono ?_; rintro e w3 ⟨rfl, hT3⟩; have hwp : w.heap.size ≤ p := (Nat.le_trans hb1.size hp); have hbw3 : Below w.heap.size w w3 := below_only (chain hb1 hb2') hT3.only hwp hT.lt; have hl3 := tape_bs hT ((hl.below hb1).below hb2') hT3.only)
        | (go_at_call 8; refine (refnew_any _ _).mono ?_; rintro e w4 ⟨rfl, hb4⟩)
        | (go_at_call 9; refine (HRr.out _ (hl3.below hb4)).mono ?_; rintro e w5 ⟨A2, c2, rfl, hO5, hb5, _⟩; unfold refv))
      have hbw5 : Below w.heap.size w w5 := chain (chain hbw3 hb4) hb5
      have hT5 := (hT3.tape.below hb4).below hb5
      have hw4 : w.heap.size ≤ w4.heap.size := Nat.le_trans hbw3.size hb4.size
      have hw5 : w.heap.size ≤ w5.heap.size := hbw5.size
      refine (HOp.out p A2 c2 _ (hT5.alloc _) ((hO5.mono hw4).alloc _) ((hb.below hbw5).alloc _) (by simp; omega)).mono ?_
      rintro e w6 ⟨A3, c3, hT6, hg6, hO6, ⟨h0, q, x, xs, hL, hq, hj, rfl⟩ | ⟨h0, rfl⟩⟩
      · have hbw6 : Below w.heap.size w w6 := below_only (bl_alloc hbw5 _) hg6 hwp (by have := hT5.lt; simp; omega)
        unfold refj
        go_wp2_with (fail)
        refine (HO2.out p A3 c3 _ (hT6.alloc _) (hO6.alloc _) (by have := hbw6.size; simp; omega)).mono ?_
        rintro e w7 ⟨A4, c4, hT7, hg7, hO7, ⟨_, q2, x2, xs2, _, _, _, rfl⟩ | ⟨_, rfl⟩⟩
        all_goals
          unfold refj
          go_wp2
          go_ret
          exact ⟨rfl, below_only (bl_alloc hbw6 _) hg7 hwp (by have := hT6.lt; simp; omega)⟩
      · have hbw6 : Below w.heap.size w w6 := below_only (bl_alloc hbw5 _) hg6 hwp (by have := hT5.lt; simp; omega)
        obtain rfl : s2 = s1 := hre.out h0
        have HLn := Lib.hid (HLN.out p)
        rw [HLen.out] at HLn
        clear hre HLN
        unfold refj
        go_wp2_with (go_at_call 11; refine (HLn.out _ (hT6.alloc _)).mono ?_; rintro e w7 ⟨rfl, rfl⟩)
        go_ret
        exact ⟨by simp, bl_alloc hbw6 _⟩
    · go_enter Try.func3, Try.ntmps3
      go_wp2_with (first
        | (go_at_call 5; have hb0 := hb1; refine (awake18_any _).mono ?_; rintro e w2 ⟨rfl, hb2⟩)
        | (go_at_call 5; refine (awake18_any _).mono ?_; rintro e w1 ⟨rfl, hb1⟩))
      go_ret
      exact ⟨rfl, chain hb1 hb2⟩
  · go_enter Try.func3, Try.ntmps3
    go_wp2_with (first
      | (go_at_call 5; have hb0 := hb1; refine (awake18_any _).mono ?_; rintro e w2 ⟨rfl, hb2⟩)
      | (go_at_call 5; refine (awake18_any _).mono ?_; rintro e w1 ⟨rfl, hb1⟩))
    go_ret
    exact ⟨rfl, chain hb1 hb2⟩
end Go.Proofs.Ytiheeajepnpejaa
