/- From an argument's reading as data to the words that the walks take: slices of slices of bytes. -/
import Derived.Test.YtcgdkfhfchkdlaaRowB
import Derived.Test.YtcgdkfhfchkdlaaRws
import Derived.Deep.Slices
namespace Go.Proofs.Ytcgdkfhfchkdlaa
open Go.ChangeShapes Go.WideShapes Go.ChangeAt Go.RowKit Go.Deep
set_option maxRecDepth 100000
section
variable {H : Type} {enc : TypeId × Value → H} {W : World} {base : Nat} {v : Value} {d : DataW H} {p : List MemPlace} {sp : Nat → Bool}
/-- A slice whose elements take one cell each: each cell, and its own reading. -/
theorem cells_of_trod {t e : TypeId} (ht : Try.prog.underlying t = some (.slice e)) (hc : Try.prog.cellsOf e = 1) {fuel : Nat} {cs : List Value} {x : DataW H × List MemPlace} (h : DataW.trod enc Try.prog W 0 (fun _ => true) true fuel t cs = some x) :
    ∃ A n c, cs = [.slice A n c] ∧ n ≤ c ∧ (n = 0 ∨ ∃ b o, A = some ⟨b, o, none⟩ ∧ ∀ j, j < n → ∃ v y m, W.cell? ⟨b, o + j, none⟩ = some v ∧ DataW.trod enc Try.prog W 0 (fun _ => true) true m e [v] = some y) := by
  rcases open_slice ht h with ⟨rfl, _⟩ | ⟨a, len, cap, m, n, D, Pl, rfl, _, hl, _, hm, _, hi⟩
  · exact ⟨none, 0, 0, rfl, Nat.le_refl _, .inl rfl⟩
  · refine ⟨some a, len, cap, rfl, by simpa using hl, ?_⟩
    rcases Nat.eq_zero_or_pos len with h0 | h0
    · exact .inl h0
    · right
      have hm' : len ≤ m := by rw [hm]; simpa using hl
      have each : ∀ j, j < len → ∃ v y k, W.cell? (a.add j) = some v ∧ DataW.trod enc Try.prog W 0 (fun _ => true) true k e [v] = some y := by
        intro j hj
        obtain ⟨cs', hcs, ht'⟩ := hi j (by omega)
        rw [hc, Nat.mul_one] at hcs
        obtain ⟨_, hlen, hat⟩ := World.cells?_some hcs
        match cs', hlen with
        | [u], _ =>
          have := hat 0 (by omega)
          refine ⟨u, _, n, ?_, ht'⟩
          simpa [Addr.add] using this
      obtain ⟨b, o, spot⟩ := a
      obtain ⟨v0, _, _, hv0, _⟩ := each 0 h0
      have hspot : spot = none := by simpa [Addr.add] using World.cell?_spot hv0
      subst hspot
      refine ⟨b, o, rfl, fun j hj => ?_⟩
      obtain ⟨v, y, k, hv, hy⟩ := each j hj
      rw [add_none] at hv
      exact ⟨v, y, k, hv, hy⟩
theorem row_rows_cap (hv : Value.okWide Try.prog W .any base 56 v) (h : DataW.Trod enc Try.prog W 0 (fun _ => true) true 56 v d p) : ∃ A n c L, v = .slice A n c ∧ Rws W A n L ∧ n ≤ c := by
  obtain ⟨a, n, c, rfl⟩ := okWide_slice Try.underlying56 hv
  obtain ⟨fuel, hf⟩ := h
  obtain ⟨A, n', c', hcs, hnc, hb⟩ := cells_of_trod Try.underlying56 (by kernel_rfl) hf
  simp [Value.cells] at hcs
  obtain ⟨rfl, rfl, rfl⟩ := hcs
  rcases hb with rfl | ⟨b, o, rfl, hb⟩
  · exact ⟨_, _, _, [], rfl, Rws.nil _ _, hnc⟩
  · obtain ⟨L, hl, hc⟩ := rws_list (w := W) (b := b) (o := o) n fun j hj => by
      obtain ⟨v, y, m, hv, hy⟩ := hb j hj
      obtain ⟨A', m', c', l, e, h2, h3⟩ := bytes_of_trod hy
      injection e with e _
      subst e
      exact ⟨A', m', c', l, hv, h2, h3⟩
    exact ⟨_, _, _, L, rfl, ⟨hl, .inr ⟨b, o, rfl, hc⟩⟩, hnc⟩
theorem row_rows (hv : Value.okWide Try.prog W .any base 56 v) (h : DataW.Trod enc Try.prog W 0 (fun _ => true) true 56 v d p) : ∃ A n c L, v = .slice A n c ∧ Rws W A n L := by
  obtain ⟨A, n, c, L, h1, h2, _⟩ := row_rows_cap hv h
  exact ⟨A, n, c, L, h1, h2⟩
end
end Go.Proofs.Ytcgdkfhfchkdlaa
