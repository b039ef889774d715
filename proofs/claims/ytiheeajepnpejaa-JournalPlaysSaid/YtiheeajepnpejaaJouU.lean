/- The reference's journal (a value): Open, walked. -/
import Derived.Test.YtiheeajepnpejaaJouT
import Derived.Deep.RegionWith
namespace Go.Proofs.Ytiheeajepnpejaa
open Go.RowKit TapM FrameM JouM
/-- Two boxes of two types, behind a call that left them. -/
theorem two_boxes2 {w w1 : World} {t t' : TypeId} {a b : Array Value} (hb : Below ((w.alloc (.cells a t)).alloc (.cells b t')).heap.size ((w.alloc (.cells a t)).alloc (.cells b t')) w1) :
    Cells w1 w.heap.size t a ∧ Cells w1 (w.heap.size + 1) t' b ∧ w.heap.size + 1 < w1.heap.size ∧ Below w.heap.size w w1 := by
  have hA := ((Cells.new w t a).alloc (.cells b t')).below hb
  have hB := (Cells.new (w.alloc (.cells a t)) t' b).below hb
  have e : (w.alloc (.cells a t)).heap.size = w.heap.size + 1 := by simp
  rw [e] at hB
  exact ⟨hA, hB, hB.lt, (bl_alloc (bl_alloc (Below.refl _ w) _) _).trans (hb.mono (by simp; omega))⟩
/-- What Open of the reference answers. -/
def RefOpened (w : World) (B : Nat) (r : TS × List (List UInt8) × Nat) (e : Ending) (w' : World) : Prop :=
  ∃ A2 c2, Own w' B (.slice A2 r.1.b.length c2) r.1.b ∧ Below w.heap.size w w' ∧
    ((r.2.2 = 0 ∧ ∃ X1 d1 X2 d2 x xs, r.2.1 = x :: xs ∧ e = .returned (.tuple #[refj r.1 xs.length A2 c2, .slice X1 x.length d1, .slice X2 xs.length d2, .int .i64 0]) ∧ Bs w' X1 x.length x ∧ Rws w' X2 xs.length xs) ∨
     (r.2.2 ≠ 0 ∧ e = .returned (.tuple #[refj r.1 0 A2 c2, .slice none 0 0, .slice none 0 0, .int .i64 (r.2.2 : Nat)])))
theorem refopen_long (B : Nat) (s : TS) (A : Option Addr) (c : Nat) (X : Option Addr) (m d : Nat) (base : List UInt8) (w : World) (ho : Own w B (.slice A s.b.length c) s.b) (hb : Bs w X m base) (hm : 60000 < m) :
    Calls Try.prog 30 #[.agg #[.int .i64 (s.cap : Int), .slice A s.b.length c, .int .i64 (s.safe : Int), .int .i64 s.fuse, .bool s.lost], .slice X m d] w (RefOpened w B (opened s base)) := by
  rw [opened_long (by rw [hb.1]; exact hm)]
  obtain ⟨cap, b, safe, fuse, lost⟩ := s
  simp only at ho ⊢
  go_enter Try.func30, Try.ntmps30
  go_wp2
  refine bodyPost_ret (v := .tuple #[.agg #[.int .i64 (cap : Int), .slice A b.length c, .int .i64 (safe : Int), .int .i64 fuse, .bool lost, .int .i64 0], .slice none 0 0, .slice none 0 0, .int .i64 3]) (by simp [results, Try.results30, go_sem, *]) rfl ?_
  refine ⟨A, c, ho.below ?_, ?_, .inr ⟨by simp, rfl⟩⟩ <;> (repeat (first | (with_reducible refine bl_set ?_ (by first | (simp; done) | (simp; omega)) _) | (with_reducible refine bl_alloc ?_ _) | with_reducible exact Below.refl _ _))
theorem refopen_lost (B : Nat) (s : TS) (A : Option Addr) (c : Nat) (X : Option Addr) (m d : Nat) (base : List UInt8) (w : World) (ho : Own w B (.slice A s.b.length c) s.b) (hb : Bs w X m base) (hm : ¬ 60000 < m) (hl : s.lost = true) :
    Calls Try.prog 30 #[.agg #[.int .i64 (s.cap : Int), .slice A s.b.length c, .int .i64 (s.safe : Int), .int .i64 s.fuse, .bool s.lost], .slice X m d] w (RefOpened w B (opened s base)) := by
  rw [opened_lost (by rw [hb.1]; exact hm) hl]
  obtain ⟨cap, b, safe, fuse, lost⟩ := s
  simp only at ho hl ⊢
  subst hl
  go_enter Try.func30, Try.ntmps30
  go_wp2
  refine bodyPost_ret (v := .tuple #[.agg #[.int .i64 (cap : Int), .slice A b.length c, .int .i64 (safe : Int), .int .i64 fuse, .bool true, .int .i64 0], .slice none 0 0, .slice none 0 0, .int .i64 9]) (by simp [results, Try.results30, go_sem, *]) rfl ?_
  refine ⟨A, c, ho.below ?_, ?_, .inr ⟨by simp, rfl⟩⟩ <;> (repeat (first | (with_reducible refine bl_set ?_ (by first | (simp; done) | (simp; omega)) _) | (with_reducible refine bl_alloc ?_ _) | with_reducible exact Below.refl _ _))
end Go.Proofs.Ytiheeajepnpejaa
