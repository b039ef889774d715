/- From an argument's reading as data to the words that the walks take: slices of acts (structs of a byte, bytes, an integer, a byte). -/
import Derived.Test.YtiheeajepnpejaaRowB
import Derived.Test.YtiheeajepnpejaaActsW
import Derived.Deep.Slices
import Derived.Deep.Fields
import Derived.ChangeSame
namespace Go.Proofs.Ytiheeajepnpejaa
open Go.ChangeShapes Go.WideShapes Go.ChangeAt Go.RowKit Go.Deep
set_option maxRecDepth 100000
section
variable {H : Type} {enc : TypeId × Value → H} {W : World} {base : Nat} {v : Value} {d : DataW H} {p : List MemPlace} {sp : Nat → Bool}
/-- A slice of structs of one-cell fields: each field's cell, and its own reading. -/
theorem fields_of_trod {t e : TypeId} {fs : Array Field} {fuel : Nat} {cs : List Value} {x : DataW H × List MemPlace} (ht : Try.prog.underlying t = some (.slice e)) (he : Try.prog.underlying e = some (.struct fs))
    (hone : oneCellFields Try.prog fs = true) (hC : Try.prog.cellsOf e = fs.size) (h : DataW.trod enc Try.prog W 0 (fun _ => true) true fuel t cs = some x) :
    ∃ A n c, cs = [.slice A n c] ∧ n ≤ 9223372036854775807 ∧ (n = 0 ∨ ∃ a, A = some a ∧ ∀ i, i < n → ∃ m, ∀ (j : Nat) (f : Field), fs[j]? = some f → ∃ v y, W.cell? (a.add (i * fs.size + j)) = some v ∧ DataW.trod enc Try.prog W 0 (fun _ => true) true m f.type [v] = some y) := by
  rcases open_slice ht h with ⟨rfl, _⟩ | ⟨a, len, cap, m, n, D, Pl, rfl, _, hl, hmx, hm, _, hi⟩
  · exact ⟨none, 0, 0, rfl, by omega, .inl rfl⟩
  · have hm' : len ≤ m := by rw [hm]; simpa using hl
    refine ⟨some a, len, cap, rfl, by unfold maxLen at hmx; omega, .inr ⟨a, rfl, fun i him => ?_⟩⟩
    obtain ⟨cs', hc, ht'⟩ := hi i (by omega)
    rw [hC] at hc
    obtain ⟨ys, n', hn', hy, hlen, hyl, hf⟩ := DataW.trod_struct he ht'
    obtain ⟨_, hcl, hat⟩ := World.cells?_some hc
    refine ⟨n', fun j f hj => ?_⟩
    obtain ⟨ho, hk⟩ := hone_of hone j f hj
    have hjl : j < fs.size := (Array.getElem?_eq_some_iff.1 hj).1
    have hcell := hat j hjl
    have hv : cs'[j]? = some (cs'[j]'(by omega)) := List.getElem?_eq_getElem (by omega)
    have h1 := hf j f hj
    rw [ho, hk] at h1
    have hone' : (cs'.drop j).take 1 = [cs'[j]'(by omega)] := by
      rw [List.drop_eq_getElem_cons (by omega)]
      rfl
    rw [hone'] at h1
    have hys : ys[j]? = some (ys[j]'(by omega)) := List.getElem?_eq_getElem (by omega)
    refine ⟨_, _, ?_, h1.trans hys⟩
    rw [← Go.Deep.add_add, hcell, hv]
theorem acts_list {w : World} {b o : Nat} (n : Nat) (h : ∀ j, j < n → ∃ a : TapM.TAct, ActIn w b (o + j * 4) a) : ∃ L : List TapM.TAct, L.length = n ∧ ∀ j (hj : j < L.length), ActIn w b (o + j * 4) L[j] := by
  induction n with
  | zero => exact ⟨[], rfl, fun j hj => absurd hj (by simp)⟩
  | succ n ih =>
    obtain ⟨L, hl, hc⟩ := ih fun j hj => h j (by omega)
    obtain ⟨x, hx⟩ := h n (by omega)
    refine ⟨L ++ [x], by simp [hl], fun j hj => ?_⟩
    by_cases hjn : j < L.length
    · have := hc j hjn
      rw [List.getElem_append_left hjn]
      exact this
    · have : j = n := by simp at hj; omega
      subst this
      rw [List.getElem_append_right (by omega)]
      simpa [hl] using hx
theorem cell_none {a : Addr} {v : Value} (h : W.cell? (a.add (0 * 4 + 0)) = some v) : ∃ b o, a = ⟨b, o, none⟩ := by
  obtain ⟨b, o, s⟩ := a
  have hs : s = none := by simpa [Addr.add] using World.cell?_spot h
  exact ⟨b, o, by rw [hs]⟩
/-- The four fields of an act, read. -/
theorem act_of_fields {b o : Nat} {i : Nat} {t0 t1 t2 t3 : TypeId} (h0 : t0 = 5) (h1 : t1 = 22) (h2 : t2 = 3) (h3 : t3 = 5)
    (g0 : ∃ v m y, W.cell? ((⟨b, o, none⟩ : Addr).add (i * 4 + 0)) = some v ∧ DataW.trod enc Try.prog W 0 (fun _ => true) true m t0 [v] = some y)
    (g1 : ∃ v m y, W.cell? ((⟨b, o, none⟩ : Addr).add (i * 4 + 1)) = some v ∧ DataW.trod enc Try.prog W 0 (fun _ => true) true m t1 [v] = some y)
    (g2 : ∃ v m y, W.cell? ((⟨b, o, none⟩ : Addr).add (i * 4 + 2)) = some v ∧ DataW.trod enc Try.prog W 0 (fun _ => true) true m t2 [v] = some y)
    (g3 : ∃ v m y, W.cell? ((⟨b, o, none⟩ : Addr).add (i * 4 + 3)) = some v ∧ DataW.trod enc Try.prog W 0 (fun _ => true) true m t3 [v] = some y) :
    ∃ x : TapM.TAct, ActIn W b (o + i * 4) x := by
  subst h0 h1 h2 h3
  obtain ⟨v0, _, _, c0, r0⟩ := g0
  obtain ⟨v1, _, _, c1, r1⟩ := g1
  obtain ⟨v2, _, _, c2, r2⟩ := g2
  obtain ⟨v3, _, _, c3, r3⟩ := g3
  obtain ⟨x0, hx0, _, w0⟩ := DataW.trod_int Try.underlying5 r0
  obtain ⟨A, n, c, l, hx1, hb, hnc⟩ := bytes_of_trod r1
  obtain ⟨x2, hx2, _, w2⟩ := DataW.trod_int Try.underlying3 r2
  obtain ⟨x3, hx3, _, w3⟩ := DataW.trod_int Try.underlying5 r3
  simp at hx0 hx1 hx2 hx3
  subst hx0 hx1 hx2 hx3
  obtain ⟨k, rfl⟩ := u8_of_wf w0
  obtain ⟨y, rfl⟩ := u8_of_wf w3
  obtain ⟨e1, e2⟩ := i64_of_wf w2
  have hl := hb.1
  subst hl
  rw [add_none] at c0 c1 c2 c3
  exact ⟨⟨k, l, x2, y⟩, c0, ⟨A, c, by rw [Nat.add_assoc]; exact c1, hb, hnc⟩, by rw [Nat.add_assoc]; exact c2, by rw [Nat.add_assoc]; exact c3, e1, e2⟩
theorem row_acts {t e : TypeId} {fs : Array Field} (ht : Try.prog.underlying t = some (.slice e)) (he : Try.prog.underlying e = some (.struct fs)) (hone : oneCellFields Try.prog fs = true) (hC : Try.prog.cellsOf e = fs.size) (hs : fs.size = 4)
    (hty : ∃ f0 f1 f2 f3 : Field, fs[0]? = some f0 ∧ fs[1]? = some f1 ∧ fs[2]? = some f2 ∧ fs[3]? = some f3 ∧ f0.type = 5 ∧ f1.type = 22 ∧ f2.type = 3 ∧ f3.type = 5)
    (hv : Value.okWide Try.prog W .any base t v) (h : DataW.Trod enc Try.prog W 0 (fun _ => true) true t v d p) : ∃ A n c L, v = .slice A n c ∧ Acts W A n L ∧ n ≤ 9223372036854775807 := by
  obtain ⟨a, n, c, rfl⟩ := okWide_slice ht hv
  obtain ⟨fuel, hf⟩ := h
  obtain ⟨A, n', c', hcs, hmax, hb⟩ := fields_of_trod ht he hone hC hf
  simp [Value.cells] at hcs
  obtain ⟨rfl, rfl, rfl⟩ := hcs
  rcases hb with rfl | ⟨a, rfl, hb⟩
  · exact ⟨_, _, _, [], rfl, ⟨rfl, .inl rfl⟩, by omega⟩
  · rcases Nat.eq_zero_or_pos n with h0 | h0
    · subst h0
      exact ⟨_, _, _, [], rfl, ⟨rfl, .inl rfl⟩, by omega⟩
    · obtain ⟨f0, f1, f2, f3, i0, i1, i2, i3, e0, e1, e2, e3⟩ := hty
      obtain ⟨b, o, rfl⟩ : ∃ b o, a = ⟨b, o, none⟩ := by
        obtain ⟨m, hm⟩ := hb 0 h0
        rw [hs] at hm
        obtain ⟨v0, y0, c0, r0⟩ := hm 0 f0 i0
        exact cell_none c0
      have each : ∀ i, i < n → ∃ x : TapM.TAct, ActIn W b (o + i * 4) x := by
        intro i hi
        obtain ⟨m, hm⟩ := hb i hi
        rw [hs] at hm
        obtain ⟨v0, y0, c0, r0⟩ := hm 0 f0 i0
        obtain ⟨v1, y1, c1, r1⟩ := hm 1 f1 i1
        obtain ⟨v2, y2, c2, r2⟩ := hm 2 f2 i2
        obtain ⟨v3, y3, c3, r3⟩ := hm 3 f3 i3
        exact act_of_fields e0 e1 e2 e3 ⟨v0, m, y0, c0, r0⟩ ⟨v1, m, y1, c1, r1⟩ ⟨v2, m, y2, c2, r2⟩ ⟨v3, m, y3, c3, r3⟩
      obtain ⟨L, hl, hL⟩ := acts_list (w := W) (b := b) (o := o) n each
      exact ⟨_, _, _, L, rfl, ⟨hl, .inr ⟨b, o, rfl, hL⟩⟩, hmax⟩
theorem row_acts18 (hv : Value.okWide Try.prog W .any base 42 v) (h : DataW.Trod enc Try.prog W 0 (fun _ => true) true 42 v d p) : ∃ A n c L, v = .slice A n c ∧ Acts W A n L ∧ n ≤ 9223372036854775807 :=
  row_acts Try.underlying42 Try.underlying45 (by kernel_rfl) (by kernel_rfl) rfl ⟨_, _, _, _, rfl, rfl, rfl, rfl, rfl, rfl, rfl, rfl⟩ hv h
end
end Go.Proofs.Ytiheeajepnpejaa
