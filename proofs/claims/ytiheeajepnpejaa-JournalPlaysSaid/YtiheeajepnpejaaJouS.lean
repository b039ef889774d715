/- The reference's journal (a value): Write and Renew, walked. -/
import Derived.Test.YtiheeajepnpejaaJouC
namespace Go.Proofs.Ytiheeajepnpejaa
open Go.RowKit TapM FrameM JouM
theorem six {w : World} {p : Nat} {t : TypeId} {a0 a1 a2 a3 a4 a5 : Value} (h : Cells w p t #[a0, a1, a2, a3, a4, a5]) :
    w.cell? ⟨p, 0, none⟩ = some a0 ∧ w.cell? ⟨p, 1, none⟩ = some a1 ∧ w.cell? ⟨p, 2, none⟩ = some a2 ∧ w.cell? ⟨p, 3, none⟩ = some a3 ∧ w.cell? ⟨p, 4, none⟩ = some a4 ∧ w.cell? ⟨p, 5, none⟩ = some a5 ∧ ∀ i, w.frozen? ⟨p, i, none⟩ = false :=
  ⟨h.cell 0, h.cell 1, h.cell 2, h.cell 3, h.cell 4, h.cell 5, h.free⟩
/-- Five stores into one block. -/
def set5 (w : World) (p : Nat) (u0 u1 u2 u3 u4 : Value) : World := ((((w.setCell ⟨p, 0, none⟩ u0).setCell ⟨p, 1, none⟩ u1).setCell ⟨p, 2, none⟩ u2).setCell ⟨p, 3, none⟩ u3).setCell ⟨p, 4, none⟩ u4
theorem only_set5 (w : World) (p : Nat) (u0 u1 u2 u3 u4 : Value) : w.grownBy (set5 w p u0 u1 u2 u3 u4) (some p) :=
  only_store (only_store (only_store (only_store (only_store (only_refl w (some p)) 0 _) 1 _) 2 _) 3 _) 4 _
theorem Cells.set5 {w : World} {p : Nat} {t : TypeId} {a0 a1 a2 a3 a4 a5 : Value} (h : Cells w p t #[a0, a1, a2, a3, a4, a5]) (u0 u1 u2 u3 u4 : Value) : Cells (set5 w p u0 u1 u2 u3 u4) p t #[u0, u1, u2, u3, u4, a5] :=
  ((((h.store 0 u0).store 1 u1).store 2 u2).store 3 u3).store 4 u4
theorem set5_size (w : World) (p : Nat) (u0 u1 u2 u3 u4 : Value) : (set5 w p u0 u1 u2 u3 u4).heap.size = w.heap.size := by simp [set5, World.setCell]
theorem jref_ne : (36 : TypeId) ≠ 5 := by decide
/-- A journal as a value. -/
def refj (s : TS) (n : Nat) (A : Option Addr) (c : Nat) : Value := .agg #[.int .i64 (s.cap : Int), .slice A s.b.length c, .int .i64 (s.safe : Int), .int .i64 s.fuse, .bool s.lost, .int .i64 (n : Int)]
/-- What a reference's call that turns a journal answers. -/
def RefJ (w : World) (B : Nat) (r : (TS × Nat) × Nat) (e : Ending) (w' : World) : Prop :=
  ∃ A2 c2, e = .returned (.tuple #[refj r.1.1 r.1.2 A2 c2, .int .i64 (r.2 : Nat)]) ∧ Own w' B (.slice A2 r.1.1.b.length c2) r.1.1.b ∧ Below w.heap.size w w'
theorem own_far {w : World} {base : Nat} {v : Value} {l : List UInt8} (h : Own w base v l) {p i : Nat} (hp : v.ownBlock ≠ some p) (u : Value) : Own (w.setCell ⟨p, i, none⟩ u) base v l :=
  h.kept (row := some p) (only_store (only_refl w _) i u) (.inr hp)
set_option maxHeartbeats 3200000 in
theorem refrenew_any (B : Nat) (s : TS) (n : Nat) (A : Option Addr) (c : Nat) (X : Option Addr) (m d : Nat) (l : List UInt8) (w : World) (hok : s.Ok) (ho : Own w B (.slice A s.b.length c) s.b) (hl : Bs w X m l) (hB : B ≤ w.heap.size) :
    Calls Try.prog 17 #[.agg #[.int .i64 (s.cap : Int), .slice A s.b.length c, .int .i64 (s.safe : Int), .int .i64 s.fuse, .bool s.lost, .int .i64 (n : Int)], .slice X m d] w (RefJ w B (JouM.renew s n l)) := by
  have hml := hl.1
  by_cases hm : 60000 < m
  · have e : JouM.renew s n l = ((s, n), 3) := by unfold JouM.renew; rw [if_pos (by omega)]
    rw [e]
    clear e hml
    obtain ⟨cap, b, safe, fuse, lost⟩ := s
    simp only at ho ⊢
    go_enter Try.func17, Try.ntmps17
    go_wp2_with (go_at_call 35; refine (refframe_long X m d hm _).mono ?_; rintro e w1 ⟨rfl, rfl⟩)
    refine bodyPost_ret (v := .tuple #[.agg #[.int .i64 (cap : Int), .slice A b.length c, .int .i64 (safe : Int), .int .i64 fuse, .bool lost, .int .i64 (n : Int)], .int .i64 3]) (by simp [results, Try.results17, go_sem, *]) rfl ?_
    refine ⟨A, c, rfl, ho.below ?_, ?_⟩ <;> (repeat (first | (with_reducible refine bl_set ?_ (by first | (simp; done) | (simp; omega)) _) | (with_reducible refine bl_alloc ?_ _) | with_reducible exact Below.refl _ _))
  · have e : JouM.renew s n l = (((s.replace (frame l)).1, if (s.replace (frame l)).2 = 0 then 0 else n), (s.replace (frame l)).2) := by
      unfold JouM.renew; rw [if_neg (by omega)]
    rw [e]
    have HF := Lib.hid (fun W h => refframe_any X m d l W h (by omega))
    have HA := Lib.hid (fun A2 c2 W ho h hB => refreplace_any B s A c A2 (m + 8) c2 (frame l) W hok ho h hB)
    generalize s.replace (frame l) = r1 at HA ⊢
    obtain ⟨⟨cap2, b2, safe2, fuse2, lost2⟩, e1⟩ := r1
    obtain ⟨cap, b, safe, fuse, lost⟩ := s
    simp only at ho HA ⊢
    clear e hml hok
    by_cases h1 : e1 = 0
    · subst h1
      rw [if_pos rfl]
      go_enter Try.func17, Try.ntmps17
      go_wp2_with (first
        | (go_at_call 35; refine (HF.out _ ((hl.alloc _).alloc _)).mono ?_; rintro e w1 ⟨A1, c1, rfl, hO1, hb1⟩; obtain ⟨hA, hR, hz1, hbw⟩ := two_boxes hb1; obtain ⟨c0, c1', c2', c3, c4, c5, f0⟩ := six hA; have ho1 := (((ho.alloc _).alloc _).below hb1))
        | (go_at_call 9; refine (HA.out A1 c1 _ ho1 hO1.bs (by have := hbw.size; omega)).mono ?_; rintro e w2 ⟨A2, c2, rfl, hown, hb2, _⟩; have hA2 := hA.below hb2; have hR2 := hR.below hb2; have hbw2 : Below w.heap.size w w2 := chain hbw hb2; obtain ⟨d0, d1, d2, d3, d4, d5, f1⟩ := six hA2; obtain ⟨r0, r1, r2, r3, r4, r5, f2⟩ := six hR2; have hz2 := hR2.lt; clear c0 c1' c2' c3 c4 c5 f0; unfold refv))
      have na := hown.apart hA2 jref_ne
      have nr := hown.apart hR2 jref_ne
      refine bodyPost_ret (v := .tuple #[.agg #[.int .i64 (cap2 : Int), .slice A2 b2.length c2, .int .i64 (safe2 : Int), .int .i64 fuse2, .bool lost2, .int .i64 0], .int .i64 0]) (by simp [results, Try.results17, go_sem, *]) rfl ?_
      refine ⟨A2, c2, rfl, ?_, ?_⟩
      · (repeat (first | (with_reducible refine own_far ?_ (by assumption) _) | with_reducible exact hown))
      · (repeat (first | (with_reducible refine bl_set ?_ (by first | (simp; done) | (simp; omega)) _) | (with_reducible refine bl_alloc ?_ _) | with_reducible exact hbw2))
    · have he : ((e1 : Int) == 0) = false := by rw [beq_eq_false_iff_ne]; omega
      rw [if_neg h1]
      go_enter Try.func17, Try.ntmps17
      go_wp2_with (first
        | (go_at_call 35; refine (HF.out _ ((hl.alloc _).alloc _)).mono ?_; rintro e w1 ⟨A1, c1, rfl, hO1, hb1⟩; obtain ⟨hA, hR, hz1, hbw⟩ := two_boxes hb1; obtain ⟨c0, c1', c2', c3, c4, c5, f0⟩ := six hA; have ho1 := (((ho.alloc _).alloc _).below hb1))
        | (go_at_call 9; refine (HA.out A1 c1 _ ho1 hO1.bs (by have := hbw.size; omega)).mono ?_; rintro e w2 ⟨A2, c2, rfl, hown, hb2, _⟩; have hA2 := hA.below hb2; have hR2 := hR.below hb2; have hbw2 : Below w.heap.size w w2 := chain hbw hb2; obtain ⟨d0, d1, d2, d3, d4, d5, f1⟩ := six hA2; obtain ⟨r0, r1, r2, r3, r4, r5, f2⟩ := six hR2; have hz2 := hR2.lt; clear c0 c1' c2' c3 c4 c5 f0; unfold refv))
      have na := hown.apart hA2 jref_ne
      have nr := hown.apart hR2 jref_ne
      refine bodyPost_ret (v := .tuple #[.agg #[.int .i64 (cap2 : Int), .slice A2 b2.length c2, .int .i64 (safe2 : Int), .int .i64 fuse2, .bool lost2, .int .i64 (n : Int)], .int .i64 (e1 : Int)]) (by simp [results, Try.results17, go_sem, *]) rfl ?_
      refine ⟨A2, c2, rfl, ?_, ?_⟩
      · (repeat (first | (with_reducible refine own_far ?_ (by assumption) _) | with_reducible exact hown))
      · (repeat (first | (with_reducible refine bl_set ?_ (by first | (simp; done) | (simp; omega)) _) | (with_reducible refine bl_alloc ?_ _) | with_reducible exact hbw2))
end Go.Proofs.Ytiheeajepnpejaa
