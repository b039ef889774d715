/- The laws of layer 3, walked: each answers true, whatever bytes. -/
import Derived.Test.YtcgdkfhfchkdlaaCrcW
import Derived.Deep.QuietTactic
import Derived.BigQuiet
import Derived.BigRegion
namespace Go.Proofs.Ytcgdkfhfchkdlaa
open Go.RowKit CrcM

theorem crc_check : CrcM.crc [49, 50, 51, 52, 53, 54, 55, 56, 57] = 3808858755 := by decide +kernel
set_option maxHeartbeats 400000 in
theorem awake03_any (w : World) : Calls Try.prog 34 #[] w fun e w' => e = .returned (.bool true) ∧ Below w.heap.size w w' := by
  have kc := fun (w : World) (C : Array Value) (n c : Nat) => Lib.run_convert_bytes_const (P := Try.prog) w 33 5 C n c Try.underlying33 Try.underlying5
  have hb : Bs _ _ 9 [49, 50, 51, 52, 53, 54, 55, 56, 57] := Bs.lit w 5 [49, 50, 51, 52, 53, 54, 55, 56, 57] #[.int .u8 49, .int .u8 50, .int .u8 51, .int .u8 52, .int .u8 53, .int .u8 54, .int .u8 55, .int .u8 56, .int .u8 57] (9, 10) rfl
  have hc := crc_any _ 9 9 _ _ hb (by omega)
  rw [crc_check] at hc
  have HC := Lib.hid hc
  clear hc hb
  go_enter Try.func34, Try.ntmps34
  go_wp2_with (go_at_call 35; refine HC.out.mono ?_; rintro e w' ⟨rfl, rfl⟩)
  go_ret
  exact ⟨rfl, (Below.refl _ _).alloc (Nat.le_refl _) _⟩

set_option maxHeartbeats 400000 in
theorem crcIs_law (A : Option Addr) (n c : Nat) (l : List UInt8) (w : World) (hl : Bs w A n l) :
    Calls Try.prog 4 #[.slice A n c] w fun e w' => e = .returned (.bool true) ∧ Below w.heap.size w w' := by
  by_cases hn : n ≤ 100000
  · go_enter Try.func4, Try.ntmps4
    go_wp2_with (first
      | (go_at_call 34; refine (awake03_any _).mono ?_; rintro e w1 ⟨rfl, hb1⟩)
      | (go_at_call 35; refine (crc_any A n c l _ (hl.below hb1) (by omega)).mono ?_; rintro e w' ⟨rfl, rfl⟩)
      | (go_at_call 36; refine (refcrc_any A n c l _ (hl.below hb1) (by omega)).mono ?_; rintro e w' ⟨rfl, rfl⟩))
    go_ret
    exact ⟨by simp, hb1⟩
  · go_enter Try.func4, Try.ntmps4
    go_wp2_with (first
      | (go_at_call 34; have hb0 := hb1; refine (awake03_any _).mono ?_; rintro e w2 ⟨rfl, hb2⟩)
      | (go_at_call 34; refine (awake03_any _).mono ?_; rintro e w1 ⟨rfl, hb1⟩))
    go_ret
    exact ⟨rfl, chain hb1 hb2⟩
set_option maxHeartbeats 400000 in
theorem crcHash_law (s : ByteArray) (w : World) :
    Calls Try.prog 9 #[.string s] w fun e w' => e = .returned (.bool true) ∧ Below w.heap.size w w' := by
  by_cases hn : s.size ≤ 100000
  · go_enter Try.func9, Try.ntmps9
    go_wp2_with (first
      | (go_at_call 34; refine (awake03_any _).mono ?_; rintro e w1 ⟨rfl, hb1⟩)
      | (go_at_call 38; refine (hash_any s _ (by omega)).mono ?_; rintro e w' ⟨rfl, rfl⟩)
      | (go_at_call 39; refine (back_any s _ (by omega)).mono ?_; rintro e w2 ⟨A, c, rfl, hbs, hb2⟩)
      | (go_at_call 36; refine (refcrc_any A _ c _ _ hbs (by omega)).mono ?_; rintro e w' ⟨rfl, rfl⟩))
    go_ret
    exact ⟨by simp, chain hb1 hb2⟩
  · go_enter Try.func9, Try.ntmps9
    go_wp2_with (first
      | (go_at_call 34; have hb0 := hb1; refine (awake03_any _).mono ?_; rintro e w2 ⟨rfl, hb2⟩)
      | (go_at_call 34; refine (awake03_any _).mono ?_; rintro e w1 ⟨rfl, hb1⟩))
    go_ret
    exact ⟨rfl, chain hb1 hb2⟩
theorem split_set (l : List UInt8) (j : Nat) (hj : j < l.length) (b : UInt8) : l.set j b = l.take j ++ [b] ++ l.drop (j + 1) := by
  rw [List.set_eq_take_append_cons_drop, if_pos hj, List.append_assoc, List.singleton_append]
theorem crc_set (l : List UInt8) (j : Nat) (hj : j < l.length) (b : UInt8) (hb : b ≠ 0) : crc (l.set j (l[j] ^^^ b)) ≠ crc l := by
  have := crc_other (l.take j) (l.drop (j + 1)) l[j] b hb
  rw [← split_set l j hj, ← split_set l j hj, List.set_getElem_self] at this
  exact this
theorem crc_lt32 (l : List UInt8) : crc l < 4294967296 := crc_lt l
set_option maxHeartbeats 400000 in
theorem crcOther_law (A : Option Addr) (n c : Nat) (l : List UInt8) (at_ : Nat) (by_ : UInt8) (w : World) (hl : Bs w A n l) (hat : at_ < 4294967296) :
    Calls Try.prog 5 #[.slice A n c, .int .u32 at_, .int .u8 (by_.toNat : Int)] w fun e w' => e = .returned (.bool true) ∧ Below w.heap.size w w' := by
  have hl0 := hl.1
  subst hl0
  by_cases hn : l.length ≤ 100000 ∧ 0 < l.length ∧ by_ ≠ 0
  · obtain ⟨hn1, hn2, hby⟩ := hn
    have h0 : ((l.length : Int) == 0) = false := beq_eq_false_iff_ne.2 (by omega)
    have h1 : ((by_.toNat : Int) == 0) = false := by
      have : by_.toNat ≠ 0 := fun h => hby (UInt8.toNat_inj.1 (by simpa using h))
      simp; omega
    have h2 : decide (100000 < (l.length : Int)) = false := by simp; omega
    obtain ⟨j, hj⟩ : ∃ j : Nat, (at_ : Int) % (l.length : Int) = j := ⟨at_ % l.length, by simp⟩
    have hjl : j < l.length := by
      have := Int.emod_lt_of_pos (at_ : Int) (b := (l.length : Int)) (by omega)
      omega
    have hne := crc_set l j hjl by_ hby
    have hne' : ((crc (l.set j (l[j] ^^^ by_)) : Int) != (crc l : Int)) = true := by rw [bne_iff_ne]; omega
    have hx := xor_u8 l[j] by_
    have HN := Lib.hid hne'
    clear hne hne'
    go_enter Try.func5, Try.ntmps5
    go_wp2_with (first
      | (go_at_call 34; refine (awake03_any _).mono ?_; rintro e w1 ⟨rfl, hb1⟩)
      | (at_builtin; apply wpList_append_at (Own.lit w1 [] hb1.size (by decide)) ((hl.below hb1).alloc _) l (.tmp 25) (.tmp 26) rfl rfl rfl rfl rfl; (case hpos => omega); (case hsz => omega); (case hbase => (have := hb1.size; simp; omega)); intro g c2 w2 hown hg hg1 hg2 hg3; have hcell := hown.cell hjl; have hfz := hown.free j; have hb2 := below_append (hb1.alloc hb1.size _) (Own.lit w1 [] hb1.size (by decide)) hg (by simp; exact Nat.le_succ_of_le hb1.size); clear hg hg1)
      | fail)
    have hs := hown.store j (l[j] ^^^ by_)
    have hb3 := hb2.setCell (p := ⟨g, j, none⟩) hg2 (.int .u8 ((l[j] ^^^ by_).toNat : Int))
    refine (crc_any _ _ _ _ _ hs.bs (by omega)).mono ?_
    rintro e w' ⟨rfl, rfl⟩
    go_wp2_with (go_at_call 35; refine (crc_any A _ c l _ (hl.below hb3) (by omega)).mono ?_; rintro e w' ⟨rfl, rfl⟩)
    go_ret
    exact ⟨by rw [← HN.out]; rfl, hb3⟩
  · have hx : 100000 < l.length ∨ (l.length ≤ 100000 ∧ l.length = 0) ∨ (l.length ≤ 100000 ∧ 0 < l.length ∧ by_ = 0) := by
      rcases Nat.lt_or_ge 100000 l.length with h1 | h1
      · exact .inl h1
      · rcases Nat.eq_zero_or_pos l.length with h2 | h2
        · exact .inr (.inl ⟨h1, h2⟩)
        · exact .inr (.inr ⟨h1, h2, Decidable.byContradiction fun h3 => hn ⟨h1, h2, h3⟩⟩)
    rcases hx with h1 | ⟨h1, h2⟩ | ⟨h1, h2, rfl⟩
    · have e1 : decide (100000 < (l.length : Int)) = true := by simp; omega
      go_enter Try.func5, Try.ntmps5
      go_wp2_with (first
        | (go_at_call 34; have hb0 := hb1; refine (awake03_any _).mono ?_; rintro e w2 ⟨rfl, hb2⟩)
        | (go_at_call 34; refine (awake03_any _).mono ?_; rintro e w1 ⟨rfl, hb1⟩))
      go_ret
      exact ⟨rfl, chain hb1 hb2⟩
    · have e1 : decide (100000 < (l.length : Int)) = false := by simp; omega
      have e2 : ((l.length : Int) == 0) = true := by rw [h2]; rfl
      go_enter Try.func5, Try.ntmps5
      go_wp2_with (first
        | (go_at_call 34; have hb0 := hb1; refine (awake03_any _).mono ?_; rintro e w2 ⟨rfl, hb2⟩)
        | (go_at_call 34; refine (awake03_any _).mono ?_; rintro e w1 ⟨rfl, hb1⟩))
      go_ret
      exact ⟨rfl, chain hb1 hb2⟩
    · have e1 : decide (100000 < (l.length : Int)) = false := by simp; omega
      have e2 : ((l.length : Int) == 0) = false := beq_eq_false_iff_ne.2 (by omega)
      go_enter Try.func5, Try.ntmps5
      go_wp2_with (first
        | (go_at_call 34; have hb0 := hb1; refine (awake03_any _).mono ?_; rintro e w2 ⟨rfl, hb2⟩)
        | (go_at_call 34; refine (awake03_any _).mono ?_; rintro e w1 ⟨rfl, hb1⟩))
      go_ret
      exact ⟨rfl, chain hb1 hb2⟩
end Go.Proofs.Ytcgdkfhfchkdlaa
