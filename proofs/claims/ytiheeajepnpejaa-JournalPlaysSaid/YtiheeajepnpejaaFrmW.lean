/- The walks of the package frame: each function answers what FrameM says. -/
import Derived.Test.YtiheeajepnpejaaCrcW
import Derived.Test.YtiheeajepnpejaaFrameMath
import Derived.Deep.QuietTactic
import Derived.BigQuiet
namespace Go.Proofs.Ytiheeajepnpejaa
open Go.RowKit FrameM
theorem four_cells_eq (n : Nat) (hn : n < 4294967296) : ((four n).map bv).toArray = #[.int .u8 ((n : Int) % 256), .int .u8 ((n : Int) / 256 % 256), .int .u8 ((n : Int) / 65536 % 256), .int .u8 ((n : Int) / 16777216)] := by
  simp [four, bv]
  omega
theorem four_any (n : Nat) (hn : n < 4294967296) (w : World) :
    Calls Try.prog 44 #[.int .u32 n] w fun e w' => e = .returned (.slice (some ⟨w.heap.size, 0, none⟩) 4 4) ∧ w' = w.alloc (.cells ((four n).map bv).toArray 5) := by
  have he := Lib.hid (four_cells_eq n hn)
  go_enter Try.func44, Try.ntmps44
  go_wp2
  go_ret
  rw [he.out]
  exact ⟨rfl, rfl⟩
theorem or_up (k a b : Nat) (ha : a < 2 ^ k) : a ||| (2 ^ k * b) = 2 ^ k * b + a := by
  rw [Nat.or_comm, Nat.two_pow_add_eq_or_of_lt ha]
theorem or_four (a b c d : UInt8) : bits .or .u32 (bits .or .u32 (bits .or .u32 ((a.toNat : Int) % 4294967296) ((b.toNat : Int) % 4294967296 * 256 % 4294967296)) ((c.toNat : Int) % 4294967296 * 65536 % 4294967296)) ((d.toNat : Int) % 4294967296 * 16777216 % 4294967296)
    = ((a.toNat + 256 * b.toNat + 65536 * c.toNat + 16777216 * d.toNat : Nat) : Int) := by
  have ha := a.toNat_lt; have hb := b.toNat_lt; have hc := c.toNat_lt; have hd := d.toNat_lt
  rw [show (a.toNat : Int) % 4294967296 = ((a.toNat : Nat) : Int) from by omega, show (b.toNat : Int) % 4294967296 * 256 % 4294967296 = ((2 ^ 8 * b.toNat : Nat) : Int) from by omega,
    show (c.toNat : Int) % 4294967296 * 65536 % 4294967296 = ((2 ^ 16 * c.toNat : Nat) : Int) from by omega, show (d.toNat : Int) % 4294967296 * 16777216 % 4294967296 = ((2 ^ 24 * d.toNat : Nat) : Int) from by omega]
  rw [u32_or_nat _ _ (by omega) (by omega), or_up 8 _ _ ha, u32_or_nat _ _ (by omega) (by omega), or_up 16 _ _ (by omega), u32_or_nat _ _ (by omega) (by omega), or_up 24 _ _ (by omega)]
  congr 1
  omega
theorem num_get (l : List UInt8) (h : 4 ≤ l.length) : num l = (l[0]).toNat + 256 * (l[1]).toNat + 65536 * (l[2]).toNat + 16777216 * (l[3]).toNat := by
  simp [num, List.getD, List.getElem?_eq_getElem (show 0 < l.length by omega), List.getElem?_eq_getElem (show 1 < l.length by omega), List.getElem?_eq_getElem (show 2 < l.length by omega), List.getElem?_eq_getElem (show 3 < l.length by omega)]
theorem number_any (A : Option Addr) (n c : Nat) (l : List UInt8) (w : World) (hl : Bs w A n l) (hn : 4 ≤ n) :
    Calls Try.prog 55 #[.slice A n c] w fun e w' => e = .returned (.int .u32 (num l)) ∧ ∃ k, w' = w.drewN k := by
  obtain ⟨rfl, hA⟩ := hl
  obtain ⟨b, o, rfl, hc⟩ := hA.resolve_left (by omega)
  have h0 := hc 0 (by omega)
  rw [Nat.add_zero] at h0
  have i0 : (0 : Int) < (l.length : Int) := by omega
  have i1 : (1 : Int) < (l.length : Int) := by omega
  have i2 : (2 : Int) < (l.length : Int) := by omega
  have i3 : (3 : Int) < (l.length : Int) := by omega
  have h1 := hc 1 (by omega)
  have h2 := hc 2 (by omega)
  have h3 := hc 3 (by omega)
  clear hc
  go_enter Try.func55, Try.ntmps55
  go_wp2
  go_quiet (fail)
  go_wp2
  go_ret
  refine ⟨?_, nq, rfl⟩
  rw [num_get l hn, ← or_four]
  rfl
/-- The same, the cells behind a name. -/
theorem four_at (n : Nat) (hn : n < 4294967296) (w : World) :
    Calls Try.prog 44 #[.int .u32 n] w fun e w' => e = .returned (.slice (some ⟨w.heap.size, 0, none⟩) 4 4) ∧ ∃ cs, Hid (cs = ((four n).map bv).toArray) ∧ w' = w.alloc (.cells cs 5) :=
  (four_any n hn w).mono fun _ _ ⟨he, hw⟩ => ⟨he, _, rfl, hw⟩
theorem own_four {m : Nat} {w : World} {cs : Array Value} (h : Hid (cs = ((four m).map bv).toArray)) {base : Nat} (hb : base ≤ w.heap.size) : Own (w.alloc (.cells cs 5)) base (.slice (some ⟨w.heap.size, 0, none⟩) 4 4) (four m) := by
  rw [h.out]
  exact Own.lit w (four m) hb (by simp [four_length, maxLen])
theorem below_drewN {B : Nat} {a w : World} (h : Below B a w) (n : Nat) : Below B a (w.drewN n) := ⟨h.os, h.tape, h.output, h.size, h.block⟩
/-- A callee that reads, in a region that draws its order. -/
theorem q_of {P : Program} {f : FuncId} {args : Array Value} {w : World} {n : Nat} {v : Value} (h : Calls P f args (w.drewN n) fun e w' => e = .returned v ∧ ∃ k, w' = (w.drewN n).drewN k) :
    Calls P f args (w.drewN n) fun e w'' => e = .returned v ∧ ∃ m, w'' = w.drewN m :=
  h.mono fun _ _ ⟨he, m, hm⟩ => ⟨he, n + m, by rw [hm, World.drewN_drewN]⟩
theorem q_add {P : Program} {f : FuncId} {args : Array Value} {w : World} {a n : Nat} {v : Value} (h : Calls P f args (w.drewN (a + n)) fun e w' => e = .returned v ∧ ∃ k, w' = (w.drewN (a + n)).drewN k) :
    Calls P f args (w.drewN (a + n)) fun e w'' => e = .returned v ∧ ∃ m, w'' = w.drewN (a + m) :=
  h.mono fun _ _ ⟨he, m, hm⟩ => ⟨he, n + m, by rw [hm, World.drewN_drewN, Nat.add_assoc]⟩
theorem crc_q (A : Option Addr) (n c : Nat) (l : List UInt8) (w : World) (hl : Bs w A n l) (hn : n ≤ 1000000) :
    Calls Try.prog 45 #[.slice A n c] w fun e w' => e = .returned (.int .u32 (CrcM.crc l)) ∧ ∃ k, w' = w.drewN k :=
  (crc_any A n c l w hl hn).mono fun _ _ ⟨he, hw⟩ => ⟨he, 0, hw.symm⟩
theorem long_short (A : Option Addr) (n c : Nat) (hn : n < 8) (w : World) :
    Calls Try.prog 54 #[.slice A n c] w fun e w' => e = .returned (.tuple #[.int .i64 0, .bool false]) ∧ w' = w := by
  go_enter Try.func54, Try.ntmps54
  go_wp2
  go_ret2
  exact ⟨rfl, rfl⟩
theorem long_yes (A : Option Addr) (n c : Nat) (l : List UInt8) (w : World) (hl : Bs w A n l) (hm : n ≤ 1000000) (h1 : num l ≤ 60000) (h2 : num l + 8 ≤ n) :
    Calls Try.prog 54 #[.slice A n c] w fun e w' => e = .returned (.tuple #[.int .i64 (num l), .bool true]) ∧ ∃ k, w' = w.drewN k := by
  have HC := Lib.hid (number_any A n c l w hl (by omega))
  generalize num l = m at *
  go_enter Try.func54, Try.ntmps54
  go_wp2_with (go_at_call 55; refine HC.out.mono ?_; rintro e w' ⟨rfl, k, rfl⟩)
  go_ret2
  exact ⟨by simp; omega, k, rfl⟩
theorem long_no (A : Option Addr) (n c : Nat) (l : List UInt8) (w : World) (hl : Bs w A n l) (hm : n ≤ 1000000) (h0 : 8 ≤ n) (h1 : ¬ (num l ≤ 60000 ∧ num l + 8 ≤ n)) :
    Calls Try.prog 54 #[.slice A n c] w fun e w' => e = .returned (.tuple #[.int .i64 (num l), .bool false]) ∧ ∃ k, w' = w.drewN k := by
  have HC := Lib.hid (number_any A n c l w hl (by omega))
  have hlt := num_lt l
  generalize num l = m at *
  by_cases h2 : m ≤ 60000
  · have h3 : ¬ m + 8 ≤ n := fun h => h1 ⟨h2, h⟩
    clear h1
    go_enter Try.func54, Try.ntmps54
    go_wp2_with (go_at_call 55; refine HC.out.mono ?_; rintro e w' ⟨rfl, k, rfl⟩)
    go_ret2
    exact ⟨by simp; omega, k, rfl⟩
  · clear h1
    go_enter Try.func54, Try.ntmps54
    go_wp2_with (go_at_call 55; refine HC.out.mono ?_; rintro e w' ⟨rfl, k, rfl⟩)
    go_ret2
    exact ⟨by simp, k, rfl⟩
/-- bytes.Clone of nil. -/
theorem clone_nil (n c : Nat) (w : World) : Calls Try.prog 27 #[.slice none n c] w fun e w' => e = .returned (.slice none 0 0) ∧ w' = w := by
  have hq := fun w => Lib.run_eql_slice_nil (P := Try.prog) w 22 5 none n c 0 0 Try.underlying22
  go_enter Try.func27, Try.ntmps27
  go_wp2
  go_ret
  exact ⟨rfl, rfl⟩
/-- bytes.Clone of whatever bytes: new memory, the same bytes. -/
theorem clone_any (A : Option Addr) (n c : Nat) (l : List UInt8) (w : World) (hl : Bs w A n l) (hn : n ≤ 10000000) :
    Calls Try.prog 27 #[.slice A n c] w fun e w' => ∃ A2 c2, e = .returned (.slice A2 n c2) ∧ Own w' w.heap.size (.slice A2 n c2) l ∧ Below w.heap.size w w' := by
  rcases A with _ | ad
  · have h0 : n = 0 := by
      rcases hl.2 with h | ⟨b, o, e, _⟩
      · exact h
      · cases e
    subst h0
    have hl0 : l = [] := List.eq_nil_of_length_eq_zero hl.1
    subst hl0
    refine (clone_nil 0 c w).mono ?_
    rintro e w' ⟨rfl, rfl⟩
    exact ⟨none, 0, rfl, Own.nil _ _, Below.refl _ _⟩
  · have hq := fun w => Lib.run_eql_slice_nil (P := Try.prog) w 22 5 (some ad) n c 0 0 Try.underlying22
    go_enter Try.func27, Try.ntmps27
    go_wp2_with (at_builtin; apply wpList_append_sl (base := w.heap.size) (Own.lit w [] (Nat.le_refl _) (by decide)) (hl.alloc _) l (.tmp 5) (.tmp 6) rfl rfl rfl rfl rfl n hl.1; (case hsz => omega); (case hbase => simp); intro A2 c2 w2 hown hg hg1)
    go_ret
    exact ⟨A2, c2, rfl, hown, below_append ((Below.refl _ _).alloc (Nat.le_refl _) _) (Own.lit w [] (Nat.le_refl _) (by decide)) hg (by simp)⟩
theorem frame_long (A : Option Addr) (n c : Nat) (hn : 60000 < n) (w : World) :
    Calls Try.prog 32 #[.slice A n c] w fun e w' => e = .returned (.tuple #[.slice none 0 0, .int .i64 3]) ∧ w' = w := by
  go_enter Try.func32, Try.ntmps32
  go_wp2
  go_ret2
  exact ⟨rfl, rfl⟩
set_option maxHeartbeats 800000 in
theorem frame_any (A : Option Addr) (n c : Nat) (l : List UInt8) (w : World) (hl : Bs w A n l) (hn : n ≤ 60000) :
    Calls Try.prog 32 #[.slice A n c] w fun e w' => ∃ A2 c2, e = .returned (.tuple #[.slice A2 (n + 8) c2, .int .i64 0]) ∧ Own w' w.heap.size (.slice A2 (n + 8) c2) (frame l) ∧ Below w.heap.size w w' := by
  obtain ⟨L, hL⟩ : ∃ L, four n ++ l = L := ⟨_, rfl⟩
  have hLl : L.length = n + 4 := by rw [← hL, List.length_append, four_length, hl.1, Nat.add_comm]
  obtain ⟨F, hF⟩ : ∃ F, L ++ four (CrcM.crc L) = F := ⟨_, rfl⟩
  have hFl : F.length = n + 8 := by rw [← hF, List.length_append, four_length, hLl]
  have hFr : frame l = F := by rw [← hF, ← hL, frame, hl.1]
  rw [hFr]
  have hcl := CrcM.crc_lt L
  have HL := Lib.hid hL; have HLl := Lib.hid hLl; have HF := Lib.hid hF; have HFl := Lib.hid hFl
  clear hL hLl hF hFl hFr
  go_enter Try.func32, Try.ntmps32
  go_wp2_with (first
    | (go_at_call 44; refine (four_at _ (by omega) _).mono ?_; rintro e w1 ⟨rfl, cs, hcs, rfl⟩)
    | (at_builtin; apply wpList_append_sl (base := w.heap.size) (own_four hcs (Nat.le_refl _)) (hl.alloc _) L (.tmp 11) (.tmp 12) rfl rfl rfl rfl HL.out (n + 4) HLl.out; (case hsz => omega); (case hbase => simp); intro A2 c2 w2 hown hg hg1; have hb2 := below_append ((Below.refl _ w).alloc (Nat.le_refl _) _) (own_four hcs (Nat.le_refl _)) hg (by simp))
    | (go_at_call 45; refine (crc_any A2 (n + 4) c2 L _ hown.bs (by omega)).mono ?_; rintro e w1 ⟨rfl, rfl⟩)
    | (at_builtin; apply wpList_append_sl (base := w.heap.size) (hown.alloc _) (own_four (base := w.heap.size) hcs (by have := hb2.size; omega)).bs F (.tmp 14) (.tmp 17) rfl rfl rfl rfl HF.out (n + 8) HFl.out; (case hsz => omega); (case hbase => (have := hb2.size; simp; omega)); intro A3 c3 w3 hown3 hg3 hg4))
  go_ret2
  exact ⟨A3, c3, rfl, hown3, below_append (hb2.alloc hb2.size _) (hown.alloc _) hg3 (by have := hb2.size; simp; omega)⟩
end Go.Proofs.Ytiheeajepnpejaa
