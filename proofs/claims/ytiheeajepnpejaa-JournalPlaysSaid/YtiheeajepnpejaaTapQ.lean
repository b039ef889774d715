/- The law TapePlays of layer 17, walked: it answers true, whatever capacity, whatever befalls the tape. -/
import Derived.Test.YtiheeajepnpejaaTapN
import Derived.Deep.RegionHeld3
import Derived.Deep.DeepCutAuto
namespace Go.Proofs.Ytiheeajepnpejaa
open Go.RowKit TapM
theorem ref_ne : (30 : TypeId) ≠ 5 := by decide
theorem cells_new {w : World} {q cap : Nat} (h : Cells w q 30 #[.int .i64 (cap : Int), .slice none 0 0, .int .i64 0, .int .i64 (-1), .bool false]) : Cells w q 30 (tcells (TS.new cap) none 0) := h
theorem keep9 {w w' : World} (hb : Below w.heap.size w w') {p0 p1 p2 p3 p4 p5 p6 p7 p8 : Addr} {v0 v1 v2 v3 v4 v5 v6 v7 v8 : Value} (h0 : w.cell? p0 = some v0) (h1 : w.cell? p1 = some v1) (h2 : w.cell? p2 = some v2) (h3 : w.cell? p3 = some v3) (h4 : w.cell? p4 = some v4)
    (h5 : w.cell? p5 = some v5) (h6 : w.cell? p6 = some v6) (h7 : w.cell? p7 = some v7) (h8 : w.cell? p8 = some v8) :
    w'.cell? p0 = some v0 ∧ w'.cell? p1 = some v1 ∧ w'.cell? p2 = some v2 ∧ w'.cell? p3 = some v3 ∧ w'.cell? p4 = some v4 ∧ w'.cell? p5 = some v5 ∧ w'.cell? p6 = some v6 ∧ w'.cell? p7 = some v7 ∧ w'.cell? p8 = some v8 :=
  ⟨cell_below hb h0, cell_below hb h1, cell_below hb h2, cell_below hb h3, cell_below hb h4, cell_below hb h5, cell_below hb h6, cell_below hb h7, cell_below hb h8⟩
theorem draw_way {wr w5 : World} (h : Below wr.drew.heap.size wr.drew w5) : Below wr.heap.size wr w5 := ⟨h.os, h.tape, h.output, h.size, h.block⟩
theorem alloc_way {wr w5 : World} {cs : Array Value} {t : TypeId} (h : Below (wr.alloc (.cells cs t)).drew.heap.size (wr.alloc (.cells cs t)).drew w5) : Cells w5 wr.heap.size t cs ∧ wr.heap.size < w5.heap.size ∧ Below wr.heap.size wr w5 := by
  have h' := draw_way h
  have hC := (Cells.new wr t cs).below h'
  exact ⟨hC, hC.lt, (bl_alloc (Below.refl _ wr) _).trans (h'.mono (by simp))⟩
/-- What the loop of a law that plays keeps: the tape at p, the reference's tape in block q. -/
def Both (wr : World) (B p q : Nat) (s : TS) : Prop := TapeAt wr p s ∧ ∃ A2 c2, Cells wr q 30 (tcells s A2 c2) ∧ Own wr B (.slice A2 s.b.length c2) s.b
theorem both_next {w7 : World} {B p q : Nat} {s2 : TS} {A3 : Option Addr} {a0 a1 a2 a3 a4 : Value} {c : Nat} (hT : TapeAt w7 p s2) (hQ : Cells w7 q 30 #[a0, a1, a2, a3, a4]) (hO : Own w7 B (.slice A3 s2.b.length c) s2.b) (hne : p ≠ q) :
    Both (((((w7.setCell ⟨q, 0, none⟩ (.int .i64 (s2.cap : Int))).setCell ⟨q, 1, none⟩ (.slice A3 s2.b.length c)).setCell ⟨q, 2, none⟩ (.int .i64 (s2.safe : Int))).setCell ⟨q, 3, none⟩ (.int .i64 s2.fuse)).setCell ⟨q, 4, none⟩ (.bool s2.lost)) B p q s2 := by
  have hg := only_store (only_store (only_store (only_store (only_store (only_refl w7 (some q)) 0 (.int .i64 (s2.cap : Int))) 1 (.slice A3 s2.b.length c)) 2 (.int .i64 (s2.safe : Int))) 3 (.int .i64 s2.fuse)) 4 (.bool s2.lost)
  exact ⟨hT.far hQ ref_ne hne hg, A3, c, ((((hQ.store 0 _).store 1 _).store 2 _).store 3 _).store 4 _, hO.grown hg hQ ref_ne⟩
end Go.Proofs.Ytiheeajepnpejaa
