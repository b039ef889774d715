/- The laws CrcBurst and CrcAffine of layer 3, walked: each answers true, whatever bytes. -/
import Derived.Test.YtcgdkfhfchkdlaaCrcL
import Derived.Deep.RegionHeld3
import Derived.Stop.BytesEq
namespace Go.Proofs.Ytcgdkfhfchkdlaa
open Go.RowKit CrcM
def mix (l bl : List UInt8) (p : Nat) : Nat → List UInt8
  | 0 => l
  | k + 1 => (mix l bl p k).set (p + k) ((mix l bl p k).getD (p + k) 0 ^^^ bl.getD k 0)
theorem mix_length (l bl : List UInt8) (p k : Nat) : (mix l bl p k).length = l.length := by
  induction k with
  | zero => rfl
  | succ k ih => rw [mix, List.length_set, ih]
theorem mix_four (P Q : List UInt8) (a0 a1 a2 a3 b0 b1 b2 b3 : UInt8) : mix (P ++ [a0, a1, a2, a3] ++ Q) [b0, b1, b2, b3] P.length 4 = P ++ [a0 ^^^ b0, a1 ^^^ b1, a2 ^^^ b2, a3 ^^^ b3] ++ Q := by
  simp [mix]
theorem four_split (l : List UInt8) (p : Nat) (h : p + 4 ≤ l.length) : ∃ P Q a0 a1 a2 a3, l = P ++ [a0, a1, a2, a3] ++ Q ∧ P.length = p := by
  refine ⟨l.take p, l.drop (p + 4), l[p], l[p + 1], l[p + 2], l[p + 3], ?_, by simp; omega⟩
  rw [List.append_assoc]
  conv => lhs; rw [← List.take_append_drop p l]
  congr 1
  rw [List.drop_eq_getElem_cons (by omega), List.drop_eq_getElem_cons (by omega), List.drop_eq_getElem_cons (by omega), List.drop_eq_getElem_cons (by omega)]
  rfl
theorem four_cells {w w1 : World} {v0 v1 v2 v3 : Value} {e : TypeId} (hb : Below (w.alloc (.cells #[v0, v1, v2, v3] e)).heap.size (w.alloc (.cells #[v0, v1, v2, v3] e)) w1) :
    w1.cell? ⟨w.heap.size, 0, none⟩ = some v0 ∧ w1.cell? ⟨w.heap.size, 1, none⟩ = some v1 ∧ w1.cell? ⟨w.heap.size, 2, none⟩ = some v2 ∧ w1.cell? ⟨w.heap.size, 3, none⟩ = some v3 := by
  have h : ∀ i, (w.alloc (.cells #[v0, v1, v2, v3] e)).cell? ⟨w.heap.size, i, none⟩ = #[v0, v1, v2, v3][i]? := fun i => cell_of_row _ _ i _ e (0, 0) (heap_alloc_new w _)
  exact ⟨cell_below hb ((h 0).trans rfl), cell_below hb ((h 1).trans rfl), cell_below hb ((h 2).trans rfl), cell_below hb ((h 3).trans rfl)⟩
theorem u8size (w : World) : (sizeOf 5).run Try.prog w = .ok 1 w := by
  obtain ⟨i0, hi, hz0, hz1, hz2⟩ := info_parts u8info
  have : ∀ (P : Program), P.info? 5 = some i0 → (sizeOf 5).run P w = .ok i0.size w := by
    intro P h
    simp [sizeOf, typeInfo, h]
  rw [this _ hi, hz1]
theorem zero_four (b0 b1 b2 b3 : UInt8) (h : ¬ (b0 = 0 ∧ b1 = 0 ∧ b2 = 0 ∧ b3 = 0)) (w : World) :
    (binOp .eql 38 (.agg #[.int .u8 (b0.toNat : Int), .int .u8 (b1.toNat : Int), .int .u8 (b2.toNat : Int), .int .u8 (b3.toNat : Int)]) (.agg #[.int .u8 0, .int .u8 0, .int .u8 0, .int .u8 0])).run Try.prog w = .ok (.bool false) w := by
  have := run_eql_bytes (P := Try.prog) w 38 5 4 Try.underlying38 Try.underlying5 u8size [b0, b1, b2, b3] [0, 0, 0, 0] rfl rfl
  have e : ([b0, b1, b2, b3] == [0, 0, 0, 0]) = false := by
    rw [beq_eq_false_iff_ne]
    intro he
    simp only [List.cons.injEq, and_true] at he
    exact h he
  rw [e] at this
  exact this
theorem zero_four' (w : World) :
    (binOp .eql 38 (.agg #[.int .u8 0, .int .u8 0, .int .u8 0, .int .u8 0]) (.agg #[.int .u8 0, .int .u8 0, .int .u8 0, .int .u8 0])).run Try.prog w = .ok (.bool true) w :=
  run_eql_bytes (P := Try.prog) w 38 5 4 Try.underlying38 Try.underlying5 u8size [0, 0, 0, 0] [0, 0, 0, 0] rfl rfl
set_option maxHeartbeats 800000 in
theorem crcBurst_law (A : Option Addr) (n c : Nat) (l : List UInt8) (at_ : Nat) (b0 b1 b2 b3 : UInt8) (w : World) (hl : Bs w A n l) (hat : at_ < 4294967296) :
    Calls Try.prog 6 #[.slice A n c, .int .u32 at_, .agg #[.int .u8 (b0.toNat : Int), .int .u8 (b1.toNat : Int), .int .u8 (b2.toNat : Int), .int .u8 (b3.toNat : Int)]] w fun e w' => e = .returned (.bool true) ∧ Below w.heap.size w w' := by
  have hl0 := hl.1
  subst hl0
  by_cases hn : l.length ≤ 100000 ∧ 4 ≤ l.length ∧ ¬ (b0 = 0 ∧ b1 = 0 ∧ b2 = 0 ∧ b3 = 0)
  · obtain ⟨hn1, hn2, hby⟩ := hn
    have h0 : decide (100000 < (l.length : Int)) = false := by simp; omega
    have h1 : decide ((l.length : Int) < 4) = false := by simp; omega
    have hz := zero_four b0 b1 b2 b3 hby
    obtain ⟨p, hp⟩ : ∃ p : Nat, (at_ : Int) % ((l.length : Int) - 3) = p := ⟨at_ % (l.length - 3), by rw [Int.natCast_emod]; congr 1; omega⟩
    have hpl : p + 4 ≤ l.length := by
      have := Int.emod_lt_of_pos (at_ : Int) (b := (l.length : Int) - 3) (by omega)
      omega
    obtain ⟨bl, hbl⟩ : ∃ bl, bl = [b0, b1, b2, b3] := ⟨_, rfl⟩
    have HBL := Lib.hid hbl
    clear hbl
    go_enter Try.func6, Try.ntmps6
    go_wp2_with (first
      | (go_at_call 34; refine (awake03_any _).mono ?_; rintro e w1 ⟨rfl, hb1⟩; obtain ⟨c0, c1, c2, c3⟩ := four_cells hb1)
      | (at_builtin; apply wpList_append_at (base := w.heap.size + 1) (Own.lit w1 [] (by have := hb1.size; simpa using this) (by decide)) (((hl.alloc _).below hb1).alloc _) l (.tmp 27) (.tmp 28) rfl rfl rfl rfl rfl; (case hpos => omega); (case hsz => omega); (case hbase => (have := hb1.size; simp at this; simp; omega)); intro g cc w2 hown hg hg1 hg2 hg3))
    have hbA : Below w.heap.size w w1 := ((Below.refl _ _).alloc (Nat.le_refl _) _).trans (hb1.mono (by simp))
    have hbB : Below (w.heap.size + 1) w1 w2 := below_append (B := w.heap.size + 1) ((Below.refl _ w1).alloc (by have := hb1.size; simpa using this) _) (Own.lit w1 [] (by have := hb1.size; simpa using this) (by decide)) hg (by have := hb1.size; simp at this; simp; omega)
    have hcells : Hid (∀ k, k < 4 → w2.cell? ⟨w.heap.size, k, none⟩ = some (.int .u8 ((bl.getD k 0).toNat : Int))) := by
      intro k hk
      rw [hbB.cell (p := ⟨w.heap.size, k, none⟩) (by simp), HBL.out]
      match k, hk with
      | 0, _ => exact c0
      | 1, _ => exact c1
      | 2, _ => exact c2
      | 3, _ => exact c3
    have hbC : Below w.heap.size w w2 := hbA.trans (hbB.mono (by simp))
    clear hbA hbB hb1 c0 c1 c2 c3 hg hg1 hz
    go_loopw [30] (fun i wr => ∃ k : Nat, k ≤ 4 ∧ i = .int .i64 k ∧ Own wr (w.heap.size + 1) (.slice (some ⟨g, 0, none⟩) l.length cc) (mix l bl p k) ∧ Below w.heap.size w wr ∧ Hid (∀ k, k < 4 → wr.cell? ⟨w.heap.size, k, none⟩ = some (.int .u8 ((bl.getD k 0).toNat : Int)))) (fun i _ => 4 - (intOf i).toNat)
    case atStart => exact ⟨0, by omega, rfl, hown, hbC, hcells⟩
    case round =>
      clear hown hbC hcells
      obtain ⟨k, hk, rfl, hown, hbel, hcells⟩ := hrel
      by_cases hk4 : k < 4
      · have hlen := mix_length l bl p k
        have hj : p + k < (mix l bl p k).length := by omega
        obtain ⟨x, HX, hcell⟩ := hown.at_ hj
        have hfz := hown.free (p + k)
        have hck := hcells.out k hk4
        obtain ⟨y, hy⟩ : ∃ y, bl.getD k 0 = y := ⟨_, rfl⟩
        rw [hy] at hck
        have HY := Lib.hid hy
        have hx := xor_u8 x y
        have HL := Lib.hid hlen
        clear hlen hj hy
        go_wp2
        go_region
        go_wp2
        have hst := hown.store (p + k) (x ^^^ y)
        have hbs := (hbel.setCell (p := ⟨g, p + k, none⟩) (by show w.heap.size ≤ g; omega) (.int .u8 ((x ^^^ y).toNat : Int))).drew
        refine ⟨⟨k + 1, by omega, by go_num, ?_, hbs, ?_⟩, by simp [intOf]; omega⟩
        · rw [mix, HX.out, HY.out]
          exact hst
        · intro j hj
          have := hcells.out j hj
          show (wr.setCell _ _).cell? _ = _
          rw [World.cell?_setCell_other wr ⟨g, p + k, none⟩ ⟨w.heap.size, j, none⟩ _ (by simp <;> omega)]
          exact this
      · obtain rfl : k = 4 := by omega
        obtain ⟨P, Q, a0, a1, a2, a3, hPQ, hP⟩ := four_split l p hpl
        have hne : ((crc (mix l bl p 4) : Int) != (crc l : Int)) = true := by
          have := crc_burst P Q a0 a1 a2 a3 b0 b1 b2 b3 hby
          rw [← mix_four, ← hPQ, hP, ← HBL.out] at this
          rw [bne_iff_ne]
          omega
        have HN := Lib.hid hne
        have hlen := Lib.hid (mix_length l bl p 4)
        clear hne hPQ hP
        have hc1 := Lib.hid (crc_any _ l.length cc _ _ hown.bs (by omega))
        have hc2 := Lib.hid (crc_any A _ c l _ (hl.below hbel) (by omega))
        go_wp2_with (go_at_call 35; first
          | (with_reducible refine hc1.out.mono ?_; rintro e w' ⟨rfl, rfl⟩)
          | (with_reducible refine hc2.out.mono ?_; rintro e w' ⟨rfl, rfl⟩))
        go_ret
        exact ⟨by rw [← HN.out]; rfl, hbel⟩
  · have hx : 100000 < l.length ∨ (l.length ≤ 100000 ∧ l.length < 4) ∨ (l.length ≤ 100000 ∧ 4 ≤ l.length ∧ (b0 = 0 ∧ b1 = 0 ∧ b2 = 0 ∧ b3 = 0)) := by
      rcases Nat.lt_or_ge 100000 l.length with h1 | h1
      · exact .inl h1
      · rcases Nat.lt_or_ge l.length 4 with h2 | h2
        · exact .inr (.inl ⟨h1, h2⟩)
        · exact .inr (.inr ⟨h1, h2, Decidable.byContradiction fun h3 => hn ⟨h1, h2, h3⟩⟩)
    rcases hx with h1 | ⟨h1, h2⟩ | ⟨h1, h2, rfl, rfl, rfl, rfl⟩
    · have e1 : decide (100000 < (l.length : Int)) = true := by simp; omega
      go_enter Try.func6, Try.ntmps6
      go_wp2_with (first
        | (go_at_call 34; have hb0 := hb1; refine (awake03_any _).mono ?_; rintro e w2 ⟨rfl, hb2⟩)
        | (go_at_call 34; refine (awake03_any _).mono ?_; rintro e w1 ⟨rfl, hb1⟩))
      go_ret
      exact ⟨rfl, ((Below.refl _ _).alloc (Nat.le_refl _) _).trans ((chain hb1 hb2).mono (by simp))⟩
    · have e1 : decide (100000 < (l.length : Int)) = false := by simp; omega
      have e2 : decide ((l.length : Int) < 4) = true := by simp; omega
      go_enter Try.func6, Try.ntmps6
      go_wp2_with (first
        | (go_at_call 34; have hb0 := hb1; refine (awake03_any _).mono ?_; rintro e w2 ⟨rfl, hb2⟩)
        | (go_at_call 34; refine (awake03_any _).mono ?_; rintro e w1 ⟨rfl, hb1⟩))
      go_ret
      exact ⟨rfl, ((Below.refl _ _).alloc (Nat.le_refl _) _).trans ((chain hb1 hb2).mono (by simp))⟩
    · have e1 : decide (100000 < (l.length : Int)) = false := by simp; omega
      have e2 : decide ((l.length : Int) < 4) = false := by simp; omega
      have hz := zero_four'
      go_enter Try.func6, Try.ntmps6
      go_wp2_with (first
        | (go_at_call 34; have hb0 := hb1; refine (awake03_any _).mono ?_; rintro e w2 ⟨rfl, hb2⟩)
        | (go_at_call 34; refine (awake03_any _).mono ?_; rintro e w1 ⟨rfl, hb1⟩; obtain ⟨c0, c1, c2, c3⟩ := four_cells hb1))
      go_ret
      exact ⟨rfl, ((Below.refl _ _).alloc (Nat.le_refl _) _).trans ((chain hb1 hb2).mono (by simp))⟩
def aff (a b c : List UInt8) : Nat → List UInt8
  | 0 => a
  | k + 1 => (aff a b c k).set k ((aff a b c k).getD k 0 ^^^ b.getD k 0 ^^^ c.getD k 0)
theorem aff_length (a b c : List UInt8) (k : Nat) : (aff a b c k).length = a.length := by
  induction k with
  | zero => rfl
  | succ k ih => rw [aff, List.length_set, ih]
theorem aff_get (a b c : List UInt8) (hb : b.length = a.length) (hc : c.length = a.length) (k : Nat) (hk : k ≤ a.length) : ∀ i, (aff a b c k)[i]? = if i < k then (List.zipWith (· ^^^ ·) (List.zipWith (· ^^^ ·) a b) c)[i]? else a[i]? := by
  induction k with
  | zero => intro i; simp [aff]
  | succ k ih =>
    intro i
    have ih := ih (by omega)
    rw [aff, List.getElem?_set]
    by_cases hi : k = i
    · subst hi
      rw [if_pos rfl, if_pos (by rw [aff_length]; omega), if_pos (by omega)]
      have hk1 := ih k
      rw [if_neg (by omega)] at hk1
      rw [List.getD_eq_getElem?_getD, hk1, List.getElem?_zipWith, List.getElem?_zipWith, List.getD_eq_getElem?_getD, List.getD_eq_getElem?_getD,
        List.getElem?_eq_getElem (show k < a.length by omega), List.getElem?_eq_getElem (show k < b.length by omega), List.getElem?_eq_getElem (show k < c.length by omega)]
      rfl
    · rw [if_neg hi, ih i]
      by_cases h2 : i < k
      · rw [if_pos h2, if_pos (by omega)]
      · rw [if_neg h2, if_neg (by omega)]
theorem aff_all (a b c : List UInt8) (hb : b.length = a.length) (hc : c.length = a.length) : aff a b c a.length = List.zipWith (· ^^^ ·) (List.zipWith (· ^^^ ·) a b) c := by
  apply List.ext_getElem?
  intro i
  rw [aff_get a b c hb hc _ (Nat.le_refl _)]
  by_cases h : i < a.length
  · rw [if_pos h]
  · rw [if_neg h, List.getElem?_eq_none (by omega), List.getElem?_eq_none (by simp; omega)]
theorem Bs.at_val {w : World} {A : Option Addr} {n : Nat} {l : List UInt8} (h : Bs w A n l) {j : Nat} (hj : j < n) : ∃ b o x, A = some ⟨b, o, none⟩ ∧ Hid (l.getD j 0 = x) ∧ w.cell? ⟨b, o + j, none⟩ = some (.int .u8 (x.toNat : Int)) := by
  obtain ⟨b, o, e, hc⟩ := h.at_ hj
  exact ⟨b, o, _, e, by show l.getD j 0 = _; simp [List.getD, List.getElem?_eq_getElem (show j < l.length by rw [h.1]; exact hj)], hc⟩
theorem xor_u32 (a b : List UInt8) : bits .xor .u32 (crc a : Int) (crc b : Int) = ((crc a ^^^ crc b : Nat) : Int) := u32_xor_nat _ _ (crc_lt a) (crc_lt b)
theorem xor_u32' (a b c : List UInt8) : bits .xor .u32 ((crc a ^^^ crc b : Nat) : Int) (crc c : Int) = ((crc a ^^^ crc b ^^^ crc c : Nat) : Int) := u32_xor_nat _ _ (Nat.xor_lt_two_pow (n := 32) (crc_lt a) (crc_lt b)) (crc_lt c)
set_option maxHeartbeats 800000 in
theorem crcAffine_law (A B C : Option Addr) (na nb nc ca cb cc : Nat) (a b c : List UInt8) (w : World) (ha : Bs w A na a) (hb : Bs w B nb b) (hc : Bs w C nc c) :
    Calls Try.prog 7 #[.slice A na ca, .slice B nb cb, .slice C nc cc] w fun e w' => e = .returned (.bool true) ∧ Below w.heap.size w w' := by
  by_cases hn : na ≤ 100000 ∧ nb = na ∧ nc = na
  · obtain ⟨hn1, rfl, rfl⟩ := hn
    have h0 : decide (100000 < (nc : Int)) = false := by simp; omega
    have h1 : ((nc : Int) != nc) = false := by simp
    obtain ⟨N, hN⟩ : ∃ N, a.length = N := ⟨_, rfl⟩
    have hnc : nc = N := by rw [← hN, ha.1]
    subst hnc
    have HN := Lib.hid hN
    clear hN
    go_enter Try.func7, Try.ntmps7
    go_wp2_with (first
      | (go_at_call 34; refine (awake03_any _).mono ?_; rintro e w1 ⟨rfl, hb1⟩)
      | (at_builtin; apply wpList_append_sl (base := w.heap.size) (Own.lit w1 [] hb1.size (by decide)) ((ha.below hb1).alloc _) a (.tmp 31) (.tmp 32) rfl rfl rfl rfl rfl nc HN.out; (case hsz => omega); (case hbase => (have := hb1.size; simp; omega)); intro A2 c2 w2 hown hg hg1))
    have hb2 := below_append (hb1.alloc hb1.size _) (Own.lit w1 [] hb1.size (by decide)) hg (by simp; exact Nat.le_succ_of_le hb1.size)
    clear hg hg1 hb1
    go_loopw [36] (fun i wr => ∃ k : Nat, k ≤ nc ∧ i = .int .i64 k ∧ Own wr w.heap.size (.slice A2 nc c2) (aff a b c k) ∧ Below w.heap.size w wr) (fun i _ => nc - (intOf i).toNat)
    case atStart => exact ⟨0, by omega, rfl, hown, hb2⟩
    case round =>
      clear hown hb2
      obtain ⟨k, hk, rfl, hown, hbel⟩ := hrel
      by_cases hk4 : k < nc
      · obtain ⟨g, rfl, hg1, hg2⟩ := hown.addr (by omega)
        obtain ⟨x, HX, hcx⟩ := hown.at_ (j := k) (by rw [hown.length]; exact hk4)
        have hfz := hown.free k
        obtain ⟨bb, bo, y, rfl, HY, hcy⟩ := (hb.below hbel).at_val hk4
        obtain ⟨cb', co, z, rfl, HZ, hcz⟩ := (hc.below hbel).at_val hk4
        have hx := xor_u8 x y
        have hx2 : bits .xor .u8 ((x.toNat ^^^ y.toNat : Nat) : Int) (z.toNat : Int) = (((x ^^^ y) ^^^ z).toNat : Int) := by rw [← UInt8.toNat_xor]; exact xor_u8 (x ^^^ y) z
        go_wp2
        go_region
        go_wp2
        have hst := hown.store k (x ^^^ y ^^^ z)
        have hbs := (hbel.setCell (p := ⟨g, k, none⟩) hg1 (.int .u8 ((x ^^^ y ^^^ z).toNat : Int))).drew
        refine ⟨⟨k + 1, by omega, by go_num, ?_, hbs⟩, by simp [intOf]; omega⟩
        rw [aff, HX.out, HY.out, HZ.out]
        exact hst
      · obtain rfl : k = nc := by omega
        have hall := aff_all a b c (by rw [hb.1, ha.1]) (by rw [hc.1, ha.1])
        rw [HN.out] at hall
        rw [hall] at hown
        clear hall
        have hc1 := Lib.hid (crc_any A2 k c2 _ _ hown.bs (by omega))
        have hc2 := Lib.hid (crc_any A k ca a _ (ha.below hbel) (by omega))
        have hc3 := Lib.hid (crc_any B k cb b _ (hb.below hbel) (by omega))
        have hc4 := Lib.hid (crc_any C k cc c _ (hc.below hbel) (by omega))
        have e1 := xor_u32 a b
        have e2 := xor_u32' a b c
        have e3 : ((crc (List.zipWith (· ^^^ ·) (List.zipWith (· ^^^ ·) a b) c) : Int) == ((crc a ^^^ crc b ^^^ crc c : Nat) : Int)) = true := by
          rw [crc_affine a b c (by rw [hb.1, ha.1]) (by rw [hc.1, ha.1])]; simp
        have E3 := Lib.hid e3
        clear e3
        go_wp2_with (go_at_call 35; first
          | (with_reducible refine hc1.out.mono ?_; rintro e w' ⟨rfl, rfl⟩)
          | (with_reducible refine hc2.out.mono ?_; rintro e w' ⟨rfl, rfl⟩)
          | (with_reducible refine hc3.out.mono ?_; rintro e w' ⟨rfl, rfl⟩)
          | (with_reducible refine hc4.out.mono ?_; rintro e w' ⟨rfl, rfl⟩))
        go_ret
        exact ⟨by rw [← E3.out]; rfl, hbel⟩
  · have hx : 100000 < na ∨ (na ≤ 100000 ∧ nb ≠ na) ∨ (na ≤ 100000 ∧ nb = na ∧ nc ≠ na) := by
      rcases Nat.lt_or_ge 100000 na with h1 | h1
      · exact .inl h1
      · by_cases h2 : nb = na
        · exact .inr (.inr ⟨h1, h2, fun h3 => hn ⟨h1, h2, h3⟩⟩)
        · exact .inr (.inl ⟨h1, h2⟩)
    rcases hx with h1 | ⟨h1, h2⟩ | ⟨h1, rfl, h2⟩
    · have e1 : decide (100000 < (na : Int)) = true := by simp; omega
      go_enter Try.func7, Try.ntmps7
      go_wp2_with (first
        | (go_at_call 34; have hb0 := hb1; refine (awake03_any _).mono ?_; rintro e w2 ⟨rfl, hb2⟩)
        | (go_at_call 34; refine (awake03_any _).mono ?_; rintro e w1 ⟨rfl, hb1⟩))
      go_ret
      exact ⟨rfl, chain hb1 hb2⟩
    · have e1 : decide (100000 < (na : Int)) = false := by simp; omega
      have e2 : ((nb : Int) != na) = true := by rw [bne_iff_ne]; omega
      go_enter Try.func7, Try.ntmps7
      go_wp2_with (first
        | (go_at_call 34; have hb0 := hb1; refine (awake03_any _).mono ?_; rintro e w2 ⟨rfl, hb2⟩)
        | (go_at_call 34; refine (awake03_any _).mono ?_; rintro e w1 ⟨rfl, hb1⟩))
      go_ret
      exact ⟨rfl, chain hb1 hb2⟩
    · have e1 : decide (100000 < (nb : Int)) = false := by simp; omega
      have e2 : ((nb : Int) != nb) = false := by simp
      have e3 : ((nc : Int) != nb) = true := by rw [bne_iff_ne]; omega
      go_enter Try.func7, Try.ntmps7
      go_wp2_with (first
        | (go_at_call 34; have hb0 := hb1; refine (awake03_any _).mono ?_; rintro e w2 ⟨rfl, hb2⟩)
        | (go_at_call 34; refine (awake03_any _).mono ?_; rintro e w1 ⟨rfl, hb1⟩))
      go_ret
      exact ⟨rfl, chain hb1 hb2⟩
end Go.Proofs.Ytcgdkfhfchkdlaa
