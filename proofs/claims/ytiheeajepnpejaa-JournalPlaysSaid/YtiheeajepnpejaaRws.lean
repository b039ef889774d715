/- A slice of slices of bytes that somebody else made: it reads as a list of records. -/
import Derived.Test.YtiheeajepnpejaaBase
namespace Go.Proofs.Ytiheeajepnpejaa
open Go.RowKit
/-- The slice of n slices at A reads as the records L. -/
def Rws (w : World) (A : Option Addr) (n : Nat) (L : List (List UInt8)) : Prop :=
  L.length = n ∧ (n = 0 ∨ ∃ b o, A = some ⟨b, o, none⟩ ∧ ∀ j (h : j < L.length), ∃ A' c', w.cell? ⟨b, o + j, none⟩ = some (.slice A' L[j].length c') ∧ Bs w A' L[j].length L[j] ∧ L[j].length ≤ c')
theorem Rws.nil (w : World) (A : Option Addr) : Rws w A 0 [] := ⟨rfl, .inl rfl⟩
theorem Rws.below {w w' : World} {A : Option Addr} {n : Nat} {L : List (List UInt8)} (h : Rws w A n L) (hb : Below w.heap.size w w') : Rws w' A n L := by
  refine ⟨h.1, h.2.imp id ?_⟩
  rintro ⟨b, o, hA, hc⟩
  refine ⟨b, o, hA, fun j hj => ?_⟩
  obtain ⟨A', c', h1, h2, h3⟩ := hc j hj
  exact ⟨A', c', cell_below hb h1, h2.below hb, h3⟩
theorem rws_list {w : World} {b o : Nat} (n : Nat) (h : ∀ j, j < n → ∃ A' m c' l, w.cell? ⟨b, o + j, none⟩ = some (.slice A' m c') ∧ Bs w A' m l ∧ m ≤ c') :
    ∃ L : List (List UInt8), L.length = n ∧ ∀ j (hj : j < L.length), ∃ A' c', w.cell? ⟨b, o + j, none⟩ = some (.slice A' L[j].length c') ∧ Bs w A' L[j].length L[j] ∧ L[j].length ≤ c' := by
  induction n with
  | zero => exact ⟨[], rfl, fun j hj => absurd hj (by simp)⟩
  | succ n ih =>
    obtain ⟨L, hL, hc⟩ := ih fun j hj => h j (by omega)
    obtain ⟨A', m, c', l, h1, h2, h3⟩ := h n (by omega)
    refine ⟨L ++ [l], by simp [hL], fun j hj => ?_⟩
    by_cases hj' : j < L.length
    · rw [List.getElem_append_left hj']
      exact hc j hj'
    · obtain rfl : j = L.length := by simp at hj; omega
      rw [List.getElem_append_right (Nat.le_refl _)]
      simp only [Nat.sub_self, List.getElem_cons_zero]
      have := h2.1
      subst this
      rw [hL]
      exact ⟨A', c', h1, h2, h3⟩
end Go.Proofs.Ytiheeajepnpejaa
