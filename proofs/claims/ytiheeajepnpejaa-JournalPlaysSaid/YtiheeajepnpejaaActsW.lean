/- A slice of acts in memory: each is four cells: a byte, bytes, an integer, a byte. -/
import Derived.Test.YtiheeajepnpejaaBase
import Derived.Test.YtiheeajepnpejaaTapMath
namespace Go.Proofs.Ytiheeajepnpejaa
open Go.RowKit TapM
/-- At offset o of block b lies an act. -/
def ActIn (w : World) (b o : Nat) (a : TAct) : Prop :=
  w.cell? ⟨b, o, none⟩ = some (.int .u8 (a.kind.toNat : Int)) ∧ (∃ A c, w.cell? ⟨b, o + 1, none⟩ = some (.slice A a.l.length c) ∧ Bs w A a.l.length a.l ∧ a.l.length ≤ c) ∧
  w.cell? ⟨b, o + 2, none⟩ = some (.int .i64 a.n) ∧ w.cell? ⟨b, o + 3, none⟩ = some (.int .u8 (a.y.toNat : Int)) ∧ -9223372036854775808 ≤ a.n ∧ a.n ≤ 9223372036854775807
theorem ActIn.below {w w' : World} {b o : Nat} {a : TAct} (h : ActIn w b o a) (hb : Below w.heap.size w w') : ActIn w' b o a := by
  obtain ⟨h0, ⟨A, c, h1, h2, h3⟩, h4, h5, h6⟩ := h
  exact ⟨cell_below hb h0, ⟨A, c, cell_below hb h1, h2.below hb, h3⟩, cell_below hb h4, cell_below hb h5, h6⟩
/-- The slice of n acts at A reads as L. -/
def Acts (w : World) (A : Option Addr) (n : Nat) (L : List TAct) : Prop :=
  L.length = n ∧ (n = 0 ∨ ∃ b o, A = some ⟨b, o, none⟩ ∧ ∀ j (h : j < L.length), ActIn w b (o + j * 4) L[j])
theorem Acts.below {w w' : World} {A : Option Addr} {n : Nat} {L : List TAct} (h : Acts w A n L) (hb : Below w.heap.size w w') : Acts w' A n L :=
  ⟨h.1, h.2.imp id fun ⟨b, o, hA, hc⟩ => ⟨b, o, hA, fun j hj => (hc j hj).below hb⟩⟩
theorem Acts.at_ {w : World} {A : Option Addr} {n : Nat} {L : List TAct} (h : Acts w A n L) {k : Nat} (hk : k < n) : ∃ b o a, A = some ⟨b, o, none⟩ ∧ a ∈ L ∧ ActIn w b (o + k * 4) a := by
  obtain ⟨rfl, hA⟩ := h
  obtain ⟨b, o, hA, hc⟩ := hA.resolve_left (by omega)
  exact ⟨b, o, L[k], hA, List.getElem_mem _, hc k hk⟩
end Go.Proofs.Ytiheeajepnpejaa
