/- The law ReserveOnce of layer 19, walked: it answers true, whatever steps. -/
import Derived.Test.YtcgdkfhfchkdlaaResW
import Derived.Deep.RegionHeld3
namespace Go.Proofs.Ytcgdkfhfchkdlaa
open Go.RowKit
/-- The slice of n bools at A reads as the list l. -/
def Bools (w : World) (A : Option Addr) (n : Nat) (l : List Bool) : Prop :=
  l.length = n ∧ (n = 0 ∨ ∃ b o, A = some ⟨b, o, none⟩ ∧ ∀ j (h : j < l.length), w.cell? ⟨b, o + j, none⟩ = some (.bool l[j]))
theorem Bools.below {w w' : World} {A : Option Addr} {n : Nat} {l : List Bool} (h : Bools w A n l) (hb : Below w.heap.size w w') : Bools w' A n l := by
  obtain ⟨hl, hA⟩ := h
  refine ⟨hl, ?_⟩
  rcases hA with h0 | ⟨b, o, rfl, hc⟩
  · exact .inl h0
  · exact .inr ⟨b, o, rfl, fun j hj => cell_below hb (hc j hj)⟩
theorem Bools.at_ {w : World} {A : Option Addr} {n : Nat} {l : List Bool} (h : Bools w A n l) {j : Nat} (hj : j < n) : ∃ b o x, A = some ⟨b, o, none⟩ ∧ w.cell? ⟨b, o + j, none⟩ = some (.bool x) := by
  obtain ⟨rfl, hA⟩ := h
  obtain ⟨b, o, hA, hc⟩ := hA.resolve_left (by omega)
  exact ⟨b, o, _, hA, hc j hj⟩
theorem Bools.at_val {w : World} {A : Option Addr} {n : Nat} {l : List Bool} (h : Bools w A n l) {j : Nat} (hj : j < n) : ∃ b o x, A = some ⟨b, o, none⟩ ∧ x = l[j]'(by rw [h.1]; exact hj) ∧ w.cell? ⟨b, o + j, none⟩ = some (.bool x) := by
  obtain ⟨hl, hA⟩ := h
  obtain ⟨b, o, hA, hc⟩ := hA.resolve_left (by omega)
  exact ⟨b, o, _, hA, rfl, hc j (by omega)⟩
/-- Numbers that lie in a block. -/
def NumC (w : World) (A : Nat) (x y : Int) : Prop :=
  w.cell? ⟨A, 0, none⟩ = some (.int .i64 x) ∧ w.cell? ⟨A, 1, none⟩ = some (.int .i64 y) ∧ w.frozen? ⟨A, 0, none⟩ = false ∧ w.frozen? ⟨A, 1, none⟩ = false ∧ A < w.heap.size
theorem NumC.c0 {w : World} {A : Nat} {x y : Int} (h : NumC w A x y) : w.cell? ⟨A, 0, none⟩ = some (.int .i64 x) := h.1
theorem NumC.c1 {w : World} {A : Nat} {x y : Int} (h : NumC w A x y) : w.cell? ⟨A, 1, none⟩ = some (.int .i64 y) := h.2.1
theorem NumC.f0 {w : World} {A : Nat} {x y : Int} (h : NumC w A x y) : w.frozen? ⟨A, 0, none⟩ = false := h.2.2.1
theorem NumC.f1 {w : World} {A : Nat} {x y : Int} (h : NumC w A x y) : w.frozen? ⟨A, 1, none⟩ = false := h.2.2.2.1
theorem NumC.lt {w : World} {A : Nat} {x y : Int} (h : NumC w A x y) : A < w.heap.size := h.2.2.2.2
theorem NumC.below {w w' : World} {A : Nat} {x y : Int} (h : NumC w A x y) (hb : Below w.heap.size w w') : NumC w' A x y :=
  ⟨cell_below hb h.1, cell_below hb h.2.1, (hb.frozen (p := ⟨A, 0, none⟩) h.2.2.2.2).trans h.2.2.1, (hb.frozen (p := ⟨A, 1, none⟩) h.2.2.2.2).trans h.2.2.2.1, Nat.lt_of_lt_of_le h.2.2.2.2 hb.size⟩
theorem below_three {w w' : World} (h : ∃ c1 c2 c3 : Array Value, w' = ((w.alloc (.cells c1 23)).alloc (.cells c2 23)).alloc (.cells c3 23)) : Below w.heap.size w w' := by
  obtain ⟨c1, c2, c3, rfl⟩ := h
  repeat (first | exact Below.refl _ _ | refine Below.al ?_ (Nat.le_refl _) _)
theorem below_four {w w' : World} (h : Four w w') : Below w.heap.size w w' := by
  obtain ⟨c1, c2, c3, c4, rfl⟩ := h
  repeat (first | exact Below.refl _ _ | refine Below.al ?_ (Nat.le_refl _) _)
theorem below_boxed (l t : Int) (w : World) : Below w.heap.size w (boxed l t w) := by
  unfold boxed
  repeat (first | exact Below.refl _ _ | refine Below.al ?_ (Nat.le_refl _) _)
theorem cell_drew {w w' : World} (hb : Below w.drew.heap.size w.drew w') {p : Addr} {v : Value} (h : w.cell? p = some v) : w'.cell? p = some v := cell_below (w := w.drew) hb h
theorem NumC.step {w w' : World} {A : Nat} {x y : Int} (h : NumC w A x y) (hb : Below w.drew.heap.size w.drew w') : NumC w' A x y := NumC.below (w := w.drew) h hb
theorem NumC.alloc {w : World} {A : Nat} {x y : Int} (h : NumC w A x y) (o : Obj) : NumC (w.alloc o) A x y := h.below ((Below.refl _ _).alloc (Nat.le_refl _) o)
theorem undrew {w w' : World} (h : Below w.drew.heap.size w.drew w') : Below w.heap.size w w' := ⟨h.os, h.tape, h.output, h.size, h.block⟩
theorem NumC.step2 {w w' : World} {A : Nat} {x y : Int} {o : Obj} (h : NumC w A x y) (hb : Below (w.alloc o).drew.heap.size (w.alloc o).drew w') : NumC w' A x y := NumC.below (w := w.alloc o) (h.alloc o) (undrew hb)
theorem cell_drew2 {w w' : World} {o : Obj} (hb : Below (w.alloc o).drew.heap.size (w.alloc o).drew w') {p : Addr} {v : Value} (h : w.cell? p = some v) : w'.cell? p = some v := cell_below (w := w.alloc o) (undrew hb) (cell_below ((Below.refl _ _).alloc (Nat.le_refl _) o) h)
theorem NumC.new {w w' : World} (hb : Below (w.alloc (.cells #[.int .i64 0, .int .i64 0] 23)).drew.heap.size (w.alloc (.cells #[.int .i64 0, .int .i64 0] 23)).drew w') : NumC w' w.heap.size 0 0 := by
  refine NumC.below (w := w.alloc (.cells #[.int .i64 0, .int .i64 0] 23)) ?_ (undrew hb)
  simp [NumC, go_sem]
theorem NumC.drew {w : World} {A : Nat} {x y : Int} (h : NumC w A x y) : NumC w.drew A x y := h
theorem give_b {l t m : Int} (hl0 : -9223372036854775808 ≤ l) (hl1 : l ≤ 9223372036854775807) (hm0 : -9223372036854775808 ≤ m) (hm1 : m ≤ 9223372036854775807) (hn : needs l t m = (0, 0)) (w : World) :
    Calls Try.prog 43 #[.agg #[.int .i64 l, .int .i64 t], .int .i64 m] w fun e w' => e = .returned (.tuple #[.int .i64 (l + 1), .agg #[.int .i64 (l + m), .int .i64 t], .int .i64 0]) ∧ Below w.heap.size w w' :=
  (give_ok hl0 hl1 hm0 hm1 hn w).mono fun _ _ ⟨he, w1, h4, hw⟩ => ⟨he, by rw [hw]; exact (below_four h4).drew⟩
theorem needs_b (l t m : Int) (hl0 : -9223372036854775808 ≤ l) (hl1 : l ≤ 9223372036854775807) (hm0 : -9223372036854775808 ≤ m) (hm1 : m ≤ 9223372036854775807) {n1 n2 : Int} (hn : needs l t m = (n1, n2)) (w : World) :
    Calls Try.prog 29 #[.agg #[.int .i64 l, .int .i64 t], .int .i64 m] w fun e w' => e = .returned (.tuple #[.int .i64 n1, .int .i64 n2]) ∧ Below w.heap.size w w' :=
  (needs_any l t m hl0 hl1 hm0 hm1 w).mono fun _ _ ⟨he, hw⟩ => ⟨by rw [he, hn], by rw [hw]; exact below_boxed l t w⟩
theorem reserve_b (l t x : Int) (h : Rt l t) (h1 : t ≤ x) (h2 : x ≤ 1099511627776) (w : World) :
    Calls Try.prog 37 #[.agg #[.int .i64 l, .int .i64 t], .int .i64 x] w fun e w' => e = .returned (.tuple #[.agg #[.int .i64 l, .int .i64 x], .int .i64 0]) ∧ Below w.heap.size w w' :=
  (reserve_yes l t x h h1 h2 w).mono fun _ _ ⟨he, hw⟩ => ⟨he, below_three hw⟩
theorem lost_b (l t : Int) (h : Rt l t) (w : World) :
    Calls Try.prog 44 #[.agg #[.int .i64 l, .int .i64 t]] w fun e w' => e = .returned (.agg #[.int .i64 t, .int .i64 t]) ∧ Below w.heap.size w w' :=
  (lost_yes l t h w).mono fun _ _ ⟨he, hw⟩ => ⟨he, below_three hw⟩
theorem below_drewN {B : Nat} {a w : World} (h : Below B a w) (n : Nat) : Below B a (w.drewN n) := ⟨h.os, h.tape, h.output, h.size, h.block⟩
set_option maxRecDepth 100000 in
set_option maxHeartbeats 1600000 in
theorem reserveOnce_law (A B : Option Addr) (n m ca cb : Nat) (l : List UInt8) (late : List Bool) (w : World) (hl : Bs w A n l) (hb : Bools w B m late) :
    Calls Try.prog 13 #[.slice A n ca, .slice B m cb] w fun e w' => e = .returned (.bool true) ∧ Below w.heap.size w w' := by
  by_cases hn : n ≤ 200 ∧ m ≤ 200
  · obtain ⟨hn1, hn2⟩ := hn
    have d1 : decide (200 < (n : Int)) = false := by simp; omega
    have d2 : decide (200 < (m : Int)) = false := by simp; omega
    go_enter Try.func13, Try.ntmps13
    go_wp2_with (go_at_call 31; refine (awake19_any _).mono ?_; rintro e w' ⟨rfl, rfl⟩; unfold boxed)
    obtain ⟨A0, hA0⟩ : ∃ A0, w.heap.size + 1 + 1 = A0 := ⟨_, rfl⟩
    rw [hA0]
    have HA0 := Lib.hid hA0
    have hAw : w.heap.size < A0 := by omega
    clear hA0
    go_loopw [6, 7, 28] (fun vl vs vk wr => ∃ (k : Nat) (nl nt last : Int), k ≤ n ∧ vk = .int .i64 k ∧ vl = .int .i64 last ∧ vs = .int .i64 nt ∧ 0 ≤ last ∧ last ≤ nl ∧ nl ≤ nt ∧ nt ≤ 270 * k ∧ NumC wr A0 nl nt ∧ Below w.heap.size w wr) (fun _ _ vk _ => n - (intOf vk).toNat)
    case atStart =>
      refine ⟨0, 0, 0, 0, by omega, rfl, rfl, rfl, by omega, by omega, by omega, by omega, ?_, ?_⟩
      · rw [← HA0.out]; simp [NumC, go_sem]
      · repeat (first | exact Below.refl _ _ | refine Below.al ?_ (Nat.le_refl _) _)
    case round =>
      obtain ⟨k, nl, nt, last, hk, rfl, rfl, rfl, h0, h1, h2, h3, hN, hbel⟩ := hrel
      by_cases hkn : k < n
      · obtain ⟨bb, oo, rfl, hcell⟩ := (hl.below hbel).at_ hkn
        have hbA : bb ≠ A0 := by
          obtain ⟨b', o', e', hc'⟩ := hl.at_ hkn
          injection e' with e'
          injection e' with e1 e2
          have := cell_lt hc'
          omega
        generalize l[k]'(by rw [hl.1]; exact hkn) = x at hcell
        have hx256 : x.toNat < 256 := x.toNat_lt
        by_cases hx : x.toNat = 0
        · have e0 : ((x.toNat : Int) == 0) = true := by rw [hx]; rfl
          have hr : Rt last nt := ⟨h0, by omega, by omega⟩
          have d0 : decide (nt < last) = false := by simp; omega
          go_wp2_with (go_at_call 44; refine (lost_yes last nt hr _).mono ?_; rintro e w1 ⟨rfl, hw⟩; have hb1 := below_three hw; obtain ⟨m0, m1, f0, f1, hlt⟩ := hN.below hb1; clear hw)
          refine ⟨⟨k + 1, nt, nt, last, by omega, by go_num, rfl, rfl, h0, by omega, by omega, by omega, ?_, ?_⟩, by simp [intOf]; omega⟩
          · simp [NumC, go_sem, m0, m1, f0, f1, hlt]
          · exact ((hbel.trans (hb1.mono hbel.size)).setCell (by simp; omega) _).setCell (by simp; omega) _
        · have e0 : ((x.toNat : Int) == 0) = false := beq_eq_false_iff_ne.2 (by omega)
          have hx0 : 1 ≤ (x.toNat : Int) := by omega
          have hx1 : (x.toNat : Int) ≤ 255 := by omega
          have hr : Rt nl nt := ⟨by omega, by omega, by omega⟩
          have hwr : IntKind.i64.wrap (x.toNat : Int) = (x.toNat : Int) := IntWalk.i64_in _ (by omega)
          by_cases hin : nl + (x.toNat : Int) ≤ nt
          · have hneeds : needs nl nt (x.toNat : Int) = (0, 0) := by
              unfold needs
              rw [if_neg (by omega), if_neg (by omega), if_pos hin]
            have HG := Lib.hid (fun w => give_b (l := nl) (t := nt) (m := (x.toNat : Int)) (by omega) (by omega) (by omega) (by omega) hneeds w)
            have HC := Lib.hid (fun w => needs_b nl nt (x.toNat : Int) (by omega) (by omega) (by omega) (by omega) hneeds w)
            clear hneeds
            obtain ⟨n0, n1, f0, f1, hlt⟩ := id hN
            go_wp2
            go_region_held3 (fun w' => w'.cell? ⟨A0, 0, none⟩ = some (.int .i64 nl) ∧ w'.cell? ⟨A0, 1, none⟩ = some (.int .i64 nt) ∧ w'.cell? ⟨bb, oo + k, none⟩ = some (.int .u8 (x.toNat : Int))) (go_keep)
              ((go_at_call 29; (with_reducible refine (HC.out _).mono ?_); rintro e w1 ⟨rfl, hb1⟩; have hN1 := hN.step hb1; have p0 := hN1.c0; have p1 := hN1.c1; have hc1 := cell_drew hb1 hcell))
            have hb1' : Below wr.heap.size wr w1 := ((Below.refl _ wr).drew).trans hb1
            have HB1 := Lib.hid hb1'
            clear hb1 hb1' n0 n1 f0 f1 hlt hcell
            go_wp2
            have HBW : Hid (Below w.heap.size w w1) := hbel.trans (HB1.out.mono hbel.size)
            have d3 : decide (nl + 1 ≤ last) = false := by simp; omega
            have d4 : (nl + (x.toNat : Int) - (nl + 1) != (x.toNat : Int) - 1) = false := by rw [bne_eq_false_iff_eq]; omega
            have d5 : decide (nt < nl + (x.toNat : Int)) = false := by simp; omega
            have ne0 := World.new_ne w1 _ p0
            have ne1 := World.new_ne w1 _ hc1
            have lt0 := hN1.lt
            have lt1 : bb < w1.heap.size := cell_lt hc1
            go_region_held3 (fun w' => w'.cell? ⟨A0, 0, none⟩ = some (.int .i64 nl) ∧ w'.cell? ⟨A0, 1, none⟩ = some (.int .i64 nt) ∧ w'.cell? ⟨bb, oo + k, none⟩ = some (.int .u8 (x.toNat : Int))) (go_keep)
              ((go_at_call 43; (with_reducible refine (HG.out _).mono ?_); rintro e w2 ⟨rfl, hb2⟩; first
                | (have hN2 := hN1.step hb2; have p2 := hN2.c0; have p3 := hN2.c1; have hc2 := cell_drew hb2 hc1; have HB2 := Lib.hid (((Below.refl _ w1).drew).trans hb2))
                | (have hN2 := hN1.step2 hb2; have p2 := hN2.c0; have p3 := hN2.c1; have hc2 := cell_drew2 hb2 hc1; have hZ := NumC.new hb2; have z0 := hZ.c0; have z1 := hZ.c1; have z2 := hZ.f0; have z3 := hZ.f1; have HB2 := Lib.hid ((((Below.refl _ w1).alloc (Nat.le_refl _) _).drew).trans (hb2.mono (by simp))))))
            all_goals (clear hb2 p0 p1 hc1)
            all_goals go_wp2
            all_goals have q2 := hN2.f0
            all_goals have q3 := hN2.f1
            all_goals have lt2 := hN2.lt
            all_goals go_quiet (fail)
            all_goals go_wp2
            all_goals go_region
            all_goals go_wp2
            all_goals have hB1 := HBW.out
            all_goals have hB2 : Below w.heap.size w w2 := hB1.trans (HB2.out.mono hB1.size)
            all_goals have hs1 := hB1.size
            all_goals have hs2 := hB2.size
            all_goals refine ⟨⟨k + 1, nl + (x.toNat : Int), nt, nl + (x.toNat : Int), by omega, by go_num, rfl, rfl, by omega, by omega, by omega, by omega, ?_, ?_⟩, by simp [intOf]; omega⟩
            · simp [NumC, go_sem, p2, p3, q2, q3, lt2]
            · repeat (first | exact hB2 | refine below_drewN ?_ _ | refine Below.drew ?_ | refine Below.setCell ?_ (by simp; omega) _ | refine Below.alloc ?_ hs2 _)
            · simp [NumC, go_sem, p2, p3, q2, q3, lt2]
            · repeat (first | exact hB2 | refine below_drewN ?_ _ | refine Below.drew ?_ | refine Below.setCell ?_ (by simp; omega) _ | refine Below.alloc ?_ hs2 _)
          · obtain ⟨T, hT⟩ : ∃ T : Int, (nl + (x.toNat : Int) + 15) / 16 * 16 = T := ⟨_, rfl⟩
            have hT1 : nl + (x.toNat : Int) ≤ T := by omega
            have hT2 : T ≤ nl + (x.toNat : Int) + 15 := by omega
            have hT3 : 0 < T := by omega
            have hT4 : T ≤ 1099511627776 := by omega
            have hneeds : needs nl nt (x.toNat : Int) = (T, 0) := by
              unfold needs
              rw [if_neg (by omega), if_neg (by omega), if_neg hin, hT]
            have hneeds2 : needs nl T (x.toNat : Int) = (0, 0) := by
              unfold needs
              rw [if_neg (by omega), if_neg (by omega), if_pos hT1]
            have HG := Lib.hid (fun w => give_b (l := nl) (t := T) (m := (x.toNat : Int)) (by omega) (by omega) (by omega) (by omega) hneeds2 w)
            have HC := Lib.hid (fun w => needs_b nl nt (x.toNat : Int) (by omega) (by omega) (by omega) (by omega) hneeds w)
            have HR := Lib.hid (fun w => reserve_b nl nt T hr (by omega) hT4 w)
            have hrl : Rt last T := ⟨by omega, by omega, hT4⟩
            have HL := Lib.hid (fun w => lost_b last T hrl w)
            clear hneeds hneeds2 hT
            by_cases hlate : ∃ (hk : k < m), late[k]'(by rw [hb.1]; exact hk) = true
            · obtain ⟨hkm, hlt⟩ := hlate
              obtain ⟨lb, lo, y, rfl, hy, hlc⟩ := (hb.below hbel).at_val hkm
              have hyt : y = true := by rw [hy]; exact hlt
              subst hyt
              clear hlt hy
              obtain ⟨n0, n1, f0, f1, hlt⟩ := id hN
              go_wp2
              go_region_held3 (fun w' => w'.cell? ⟨A0, 0, none⟩ = some (.int .i64 nl) ∧ w'.cell? ⟨A0, 1, none⟩ = some (.int .i64 nt) ∧ w'.cell? ⟨bb, oo + k, none⟩ = some (.int .u8 (x.toNat : Int))) (go_keep)
                ((go_at_call 29; (with_reducible refine (HC.out _).mono ?_); rintro e w1 ⟨rfl, hb1⟩; have hN1 := hN.step hb1; have p0 := hN1.c0; have p1 := hN1.c1; have hc1 := cell_drew hb1 hcell))
              have hb1' : Below wr.heap.size wr w1 := ((Below.refl _ wr).drew).trans hb1
              have HB1 := Lib.hid hb1'
              clear hb1 hb1' n0 n1 f0 f1 hlt hcell
              have hlc1 := cell_below HB1.out hlc
              clear hlc
              go_wp2_with (go_at_call 44; refine (HL.out _).mono ?_; rintro e w2 ⟨rfl, hb2⟩; obtain ⟨m0, m1, f0, f1, hlt⟩ := hN1.below hb2)
              have hB1 : Below w.heap.size w w1 := hbel.trans (HB1.out.mono hbel.size)
              have hB2 : Below w.heap.size w w2 := hB1.trans (hb2.mono hB1.size)
              refine ⟨⟨k + 1, T, T, last, by omega, by go_num, rfl, rfl, h0, by omega, by omega, by omega, ?_, ?_⟩, by simp [intOf]; omega⟩
              · simp [NumC, go_sem, m0, m1, f0, f1, hlt]
              · exact (hB2.setCell (by simp; omega) _).setCell (by simp; omega) _
            · have hl2 : ¬ k < m ∨ ∃ lb lo, B = some ⟨lb, lo, none⟩ ∧ k < m ∧ wr.cell? ⟨lb, lo + k, none⟩ = some (.bool false) := by
                by_cases hkm : k < m
                · obtain ⟨lb, lo, y, hB, hy, hlc⟩ := (hb.below hbel).at_val hkm
                  have hyf : y = false := by
                    cases y with
                    | false => rfl
                    | true => exact absurd ⟨hkm, hy.symm⟩ hlate
                  subst hyf
                  exact .inr ⟨lb, lo, hB, hkm, hlc⟩
                · exact .inl hkm
              clear hlate
              rcases hl2 with hkm | ⟨lb, lo, rfl, hkm, hlc⟩
              · have dk : decide ((k : Int) < (m : Int)) = false := by simp; omega
                obtain ⟨n0, n1, f0, f1, hlt⟩ := id hN
                go_wp2
                go_region_held3 (fun w' => w'.cell? ⟨A0, 0, none⟩ = some (.int .i64 nl) ∧ w'.cell? ⟨A0, 1, none⟩ = some (.int .i64 nt) ∧ w'.cell? ⟨bb, oo + k, none⟩ = some (.int .u8 (x.toNat : Int))) (go_keep)
                  ((go_at_call 29; (with_reducible refine (HC.out _).mono ?_); rintro e w1 ⟨rfl, hb1⟩; have hN1 := hN.step hb1; have p0 := hN1.c0; have p1 := hN1.c1; have hc1 := cell_drew hb1 hcell))
                have hb1' : Below wr.heap.size wr w1 := ((Below.refl _ wr).drew).trans hb1
                have HB1 := Lib.hid hb1'
                clear hb1 hb1' n0 n1 f0 f1 hlt hcell
                go_wp2_with (go_at_call 37; refine (HR.out _).mono ?_; rintro e w2 ⟨rfl, hb2⟩; obtain ⟨m0, m1, f0, f1, hlt⟩ := hN1.below hb2; have hc2 := cell_below hb2 hc1)
                have hBB : Below w.heap.size w ((w2.setCell ⟨A0, 0, none⟩ (.int .i64 nl)).setCell ⟨A0, 1, none⟩ (.int .i64 T)) := by
                  have hB1 : Below w.heap.size w w1 := hbel.trans (HB1.out.mono hbel.size)
                  have hB2 : Below w.heap.size w w2 := hB1.trans (hb2.mono hB1.size)
                  exact (hB2.setCell (by simp; omega) _).setCell (by simp; omega) _
                have hNN : NumC ((w2.setCell ⟨A0, 0, none⟩ (.int .i64 nl)).setCell ⟨A0, 1, none⟩ (.int .i64 T)) A0 nl T := by simp [NumC, go_sem, m0, m1, f0, f1, hlt]
                have hcc : ((w2.setCell ⟨A0, 0, none⟩ (.int .i64 nl)).setCell ⟨A0, 1, none⟩ (.int .i64 T)).cell? ⟨bb, oo + k, none⟩ = some (.int .u8 (x.toNat : Int)) := by
                  rw [World.cell?_setCell_other _ ⟨A0, 1, none⟩ ⟨bb, oo + k, none⟩ _ (fun e => hbA (by injection e with e; exact e.symm)), World.cell?_setCell_other _ ⟨A0, 0, none⟩ ⟨bb, oo + k, none⟩ _ (fun e => hbA (by injection e with e; exact e.symm))]
                  exact hc2
                clear hb2 m0 m1 f0 f1 hlt hc2 hc1 p0 p1 hN1 HB1
                generalize (w2.setCell ⟨A0, 0, none⟩ (.int .i64 nl)).setCell ⟨A0, 1, none⟩ (.int .i64 T) = w1' at hBB hNN hcc ⊢
                obtain ⟨w1, rfl⟩ : ∃ w1, w1 = w1' := ⟨_, rfl⟩
                have hN1 := hNN
                have p0 := hN1.c0
                have p1 := hN1.c1
                have hc1 := hcc
                have HBW := Lib.hid hBB
                clear hNN hcc hBB
                have d3 : decide (nl + 1 ≤ last) = false := by simp; omega
                have d4 : (nl + (x.toNat : Int) - (nl + 1) != (x.toNat : Int) - 1) = false := by rw [bne_eq_false_iff_eq]; omega
                have d5 : decide (T < nl + (x.toNat : Int)) = false := by simp; omega
                have ne0 := World.new_ne w1 _ p0
                have ne1 := World.new_ne w1 _ hc1
                have lt0 := hN1.lt
                have lt1 : bb < w1.heap.size := cell_lt hc1
                go_region_held3 (fun w' => w'.cell? ⟨A0, 0, none⟩ = some (.int .i64 nl) ∧ w'.cell? ⟨A0, 1, none⟩ = some (.int .i64 T) ∧ w'.cell? ⟨bb, oo + k, none⟩ = some (.int .u8 (x.toNat : Int))) (go_keep)
                  ((go_at_call 43; (with_reducible refine (HG.out _).mono ?_); rintro e w2 ⟨rfl, hb2⟩; first
                    | (have hN2 := hN1.step hb2; have p2 := hN2.c0; have p3 := hN2.c1; have hc2 := cell_drew hb2 hc1; have HB2 := Lib.hid (((Below.refl _ w1).drew).trans hb2))
                    | (have hN2 := hN1.step2 hb2; have p2 := hN2.c0; have p3 := hN2.c1; have hc2 := cell_drew2 hb2 hc1; have hZ := NumC.new hb2; have z0 := hZ.c0; have z1 := hZ.c1; have z2 := hZ.f0; have z3 := hZ.f1; have HB2 := Lib.hid ((((Below.refl _ w1).alloc (Nat.le_refl _) _).drew).trans (hb2.mono (by simp))))))
                all_goals (clear hb2 p0 p1 hc1)
                all_goals go_wp2
                all_goals have q2 := hN2.f0
                all_goals have q3 := hN2.f1
                all_goals have lt2 := hN2.lt
                all_goals go_quiet (fail)
                all_goals go_wp2
                all_goals go_region
                all_goals go_wp2
                all_goals have hB1 := HBW.out
                all_goals have hB2 : Below w.heap.size w w2 := hB1.trans (HB2.out.mono hB1.size)
                all_goals have hs1 := hB1.size
                all_goals have hs2 := hB2.size
                all_goals refine ⟨⟨k + 1, nl + (x.toNat : Int), T, nl + (x.toNat : Int), by omega, by go_num, rfl, rfl, by omega, by omega, by omega, by omega, ?_, ?_⟩, by simp [intOf]; omega⟩
                · simp [NumC, go_sem, p2, p3, q2, q3, lt2]
                · repeat (first | exact hB2 | refine below_drewN ?_ _ | refine Below.drew ?_ | refine Below.setCell ?_ (by simp; omega) _ | refine Below.alloc ?_ hs2 _)
                · simp [NumC, go_sem, p2, p3, q2, q3, lt2]
                · repeat (first | exact hB2 | refine below_drewN ?_ _ | refine Below.drew ?_ | refine Below.setCell ?_ (by simp; omega) _ | refine Below.alloc ?_ hs2 _)
              · have dk : (k : Int) < (m : Int) := by omega
                obtain ⟨n0, n1, f0, f1, hlt⟩ := id hN
                go_wp2
                go_region_held3 (fun w' => w'.cell? ⟨A0, 0, none⟩ = some (.int .i64 nl) ∧ w'.cell? ⟨A0, 1, none⟩ = some (.int .i64 nt) ∧ w'.cell? ⟨bb, oo + k, none⟩ = some (.int .u8 (x.toNat : Int))) (go_keep)
                  ((go_at_call 29; (with_reducible refine (HC.out _).mono ?_); rintro e w1 ⟨rfl, hb1⟩; have hN1 := hN.step hb1; have p0 := hN1.c0; have p1 := hN1.c1; have hc1 := cell_drew hb1 hcell))
                have hb1' : Below wr.heap.size wr w1 := ((Below.refl _ wr).drew).trans hb1
                have HB1 := Lib.hid hb1'
                clear hb1 hb1' n0 n1 f0 f1 hlt hcell
                have hlc1 := cell_below HB1.out hlc
                go_wp2_with (go_at_call 37; refine (HR.out _).mono ?_; rintro e w2 ⟨rfl, hb2⟩; obtain ⟨m0, m1, f0, f1, hlt⟩ := hN1.below hb2; have hc2 := cell_below hb2 hc1)
                have hBB : Below w.heap.size w ((w2.setCell ⟨A0, 0, none⟩ (.int .i64 nl)).setCell ⟨A0, 1, none⟩ (.int .i64 T)) := by
                  have hB1 : Below w.heap.size w w1 := hbel.trans (HB1.out.mono hbel.size)
                  have hB2 : Below w.heap.size w w2 := hB1.trans (hb2.mono hB1.size)
                  exact (hB2.setCell (by simp; omega) _).setCell (by simp; omega) _
                have hNN : NumC ((w2.setCell ⟨A0, 0, none⟩ (.int .i64 nl)).setCell ⟨A0, 1, none⟩ (.int .i64 T)) A0 nl T := by simp [NumC, go_sem, m0, m1, f0, f1, hlt]
                have hcc : ((w2.setCell ⟨A0, 0, none⟩ (.int .i64 nl)).setCell ⟨A0, 1, none⟩ (.int .i64 T)).cell? ⟨bb, oo + k, none⟩ = some (.int .u8 (x.toNat : Int)) := by
                  rw [World.cell?_setCell_other _ ⟨A0, 1, none⟩ ⟨bb, oo + k, none⟩ _ (fun e => hbA (by injection e with e; exact e.symm)), World.cell?_setCell_other _ ⟨A0, 0, none⟩ ⟨bb, oo + k, none⟩ _ (fun e => hbA (by injection e with e; exact e.symm))]
                  exact hc2
                clear hb2 m0 m1 f0 f1 hlt hc2 hc1 p0 p1 hN1 HB1 hlc1 hlc
                generalize (w2.setCell ⟨A0, 0, none⟩ (.int .i64 nl)).setCell ⟨A0, 1, none⟩ (.int .i64 T) = w1' at hBB hNN hcc ⊢
                obtain ⟨w1, rfl⟩ : ∃ w1, w1 = w1' := ⟨_, rfl⟩
                have hN1 := hNN
                have p0 := hN1.c0
                have p1 := hN1.c1
                have hc1 := hcc
                have HBW := Lib.hid hBB
                clear hNN hcc hBB
                have d3 : decide (nl + 1 ≤ last) = false := by simp; omega
                have d4 : (nl + (x.toNat : Int) - (nl + 1) != (x.toNat : Int) - 1) = false := by rw [bne_eq_false_iff_eq]; omega
                have d5 : decide (T < nl + (x.toNat : Int)) = false := by simp; omega
                have ne0 := World.new_ne w1 _ p0
                have ne1 := World.new_ne w1 _ hc1
                have lt0 := hN1.lt
                have lt1 : bb < w1.heap.size := cell_lt hc1
                go_region_held3 (fun w' => w'.cell? ⟨A0, 0, none⟩ = some (.int .i64 nl) ∧ w'.cell? ⟨A0, 1, none⟩ = some (.int .i64 T) ∧ w'.cell? ⟨bb, oo + k, none⟩ = some (.int .u8 (x.toNat : Int))) (go_keep)
                  ((go_at_call 43; (with_reducible refine (HG.out _).mono ?_); rintro e w2 ⟨rfl, hb2⟩; first
                    | (have hN2 := hN1.step hb2; have p2 := hN2.c0; have p3 := hN2.c1; have hc2 := cell_drew hb2 hc1; have HB2 := Lib.hid (((Below.refl _ w1).drew).trans hb2))
                    | (have hN2 := hN1.step2 hb2; have p2 := hN2.c0; have p3 := hN2.c1; have hc2 := cell_drew2 hb2 hc1; have hZ := NumC.new hb2; have z0 := hZ.c0; have z1 := hZ.c1; have z2 := hZ.f0; have z3 := hZ.f1; have HB2 := Lib.hid ((((Below.refl _ w1).alloc (Nat.le_refl _) _).drew).trans (hb2.mono (by simp))))))
                all_goals (clear hb2 p0 p1 hc1)
                all_goals go_wp2
                all_goals have q2 := hN2.f0
                all_goals have q3 := hN2.f1
                all_goals have lt2 := hN2.lt
                all_goals go_quiet (fail)
                all_goals go_wp2
                all_goals go_region
                all_goals go_wp2
                all_goals have hB1 := HBW.out
                all_goals have hB2 : Below w.heap.size w w2 := hB1.trans (HB2.out.mono hB1.size)
                all_goals have hs1 := hB1.size
                all_goals have hs2 := hB2.size
                all_goals refine ⟨⟨k + 1, nl + (x.toNat : Int), T, nl + (x.toNat : Int), by omega, by go_num, rfl, rfl, by omega, by omega, by omega, by omega, ?_, ?_⟩, by simp [intOf]; omega⟩
                · simp [NumC, go_sem, p2, p3, q2, q3, lt2]
                · repeat (first | exact hB2 | refine below_drewN ?_ _ | refine Below.drew ?_ | refine Below.setCell ?_ (by simp; omega) _ | refine Below.alloc ?_ hs2 _)
                · simp [NumC, go_sem, p2, p3, q2, q3, lt2]
                · repeat (first | exact hB2 | refine below_drewN ?_ _ | refine Below.drew ?_ | refine Below.setCell ?_ (by simp; omega) _ | refine Below.alloc ?_ hs2 _)
      · obtain rfl : k = n := by omega
        go_wp2_with (fail)
        go_ret
        exact ⟨rfl, hbel⟩
  · by_cases h1 : n ≤ 200
    · have h2 : 200 < m := by omega
      have d1 : decide (200 < (n : Int)) = false := by simp; omega
      have d2 : decide (200 < (m : Int)) = true := by simp; omega
      go_enter Try.func13, Try.ntmps13
      go_wp2_with (go_at_call 31; refine (awake19_any _).mono ?_; rintro e w' ⟨rfl, rfl⟩; unfold boxed)
      go_ret
      exact ⟨rfl, by repeat (first | exact Below.refl _ _ | refine Below.al ?_ (Nat.le_refl _) _)⟩
    · have d1 : decide (200 < (n : Int)) = true := by simp; omega
      go_enter Try.func13, Try.ntmps13
      go_wp2_with (go_at_call 31; refine (awake19_any _).mono ?_; rintro e w' ⟨rfl, rfl⟩; unfold boxed)
      go_ret
      exact ⟨rfl, by repeat (first | exact Below.refl _ _ | refine Below.al ?_ (Nat.le_refl _) _)⟩
end Go.Proofs.Ytcgdkfhfchkdlaa
