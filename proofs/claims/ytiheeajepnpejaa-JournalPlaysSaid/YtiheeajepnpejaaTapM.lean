/- model, is and awake of the laws of layer 17, walked. -/
import Derived.Test.YtiheeajepnpejaaTapL
import Derived.Test.YtiheeajepnpejaaFrmT
namespace Go.Proofs.Ytiheeajepnpejaa
open Go.RowKit TapM
/-- Three boxes, behind a call that left them. -/
theorem three_boxes {w w1 : World} {t t' : TypeId} {a b c : Array Value} (hb : Below (((w.alloc (.cells a t)).alloc (.cells b t')).alloc (.cells c t)).heap.size (((w.alloc (.cells a t)).alloc (.cells b t')).alloc (.cells c t)) w1) :
    Cells w1 (w.heap.size + 1 + 1) t c ∧ w.heap.size + 1 + 1 < w1.heap.size ∧ Below w.heap.size w w1 := by
  have hC := (Cells.new ((w.alloc (.cells a t)).alloc (.cells b t')) t c).below hb
  have e : ((w.alloc (.cells a t)).alloc (.cells b t')).heap.size = w.heap.size + 1 + 1 := by simp
  rw [e] at hC
  exact ⟨hC, hC.lt, (bl_alloc (bl_alloc (bl_alloc (Below.refl _ w) _) _) _).trans (hb.mono (by simp; omega))⟩
theorem Own.a3 {w : World} {B : Nat} {v : Value} {l : List UInt8} (h : Own w B v l) (X Y Z : Obj) : Own (((w.alloc X).alloc Y).alloc Z) B v l := ((h.alloc X).alloc Y).alloc Z
end Go.Proofs.Ytiheeajepnpejaa
