/- A row of records that the call made: a slice whose elements are slices of bytes, each in a row of the call's own. -/
import Derived.Test.YtiheeajepnpejaaBase
namespace Go.Proofs.Ytiheeajepnpejaa
open Go.RowKit
theorem recinfo : (Try.prog.info? 22).map (fun i => (i.zero, i.size, i.bytes)) = some (some (.slice none 0 0), 1, 24) := by kernel_rfl
/-- v is a slice of the call's own whose elements are the records L, each of the call's own too. -/
def Recs (w : World) (base : Nat) (v : Value) (L : List (List UInt8)) : Prop :=
  ∃ vs : List Value, vs.length = L.length ∧ w.ownsRow base 22 1 v L.length vs ∧ ∀ j (h : j < L.length), ∃ u, vs[j]? = some u ∧ Own w base u L[j]
section
variable {w w' : World} {base : Nat} {v u : Value} {L : List (List UInt8)} {l : List UInt8}
theorem Recs.nil (w : World) (base : Nat) : Recs w base (.slice none 0 0) [] := ⟨[], rfl, World.ownsRow_nil w base _ 1, fun j h => absurd h (by simp)⟩
theorem Recs.slice (h : Recs w base v L) : ∃ A c, v = .slice A L.length c := by
  obtain ⟨vs, _, h, _⟩ := h
  obtain ⟨A, c, hv, _⟩ := own_slice h
  exact ⟨A, c, hv⟩
theorem own_apart {n : Nat} {vs : List Value} (h : Own w base u l) (hv : w.ownsRow base 22 1 v n vs) : u.ownBlock = none ∨ u.ownBlock ≠ v.ownBlock := by
  rcases h.2 with ⟨rfl, _⟩ | ⟨g, cap, cur, rfl, _, hg, _⟩
  · exact .inl rfl
  · right
    rcases hv.2 with ⟨rfl, _⟩ | ⟨g', cap', cur', rfl, _, hg', _⟩
    · simp [Value.ownBlock]
    · intro e
      simp [Value.ownBlock] at e
      subst e
      rw [hg] at hg'
      injection hg' with hg'
      injection hg' with _ e2
      exact absurd e2 (by decide)
theorem Recs.below (h : Recs w base v L) (hb : Below w.heap.size w w') : Recs w' base v L := by
  obtain ⟨vs, h1, h2, h3⟩ := h
  refine ⟨vs, h1, World.ownsRow.kept (row := none) h2 ⟨hb.os, hb.tape, hb.output, hb.size, fun k hk _ => hb.block k hk⟩ (by cases v.ownBlock <;> simp), fun j hj => ?_⟩
  obtain ⟨u, hu, ho⟩ := h3 j hj
  exact ⟨u, hu, ho.below hb⟩
theorem Recs.alloc (h : Recs w base v L) (o : Obj) : Recs (w.alloc o) base v L := h.below ((Below.refl _ _).alloc (Nat.le_refl _) o)
theorem Recs.drewN (h : Recs w base v L) (k : Nat) : Recs (w.drewN k) base v L := h
theorem Recs.at_block (h : Recs w base v L) : ∀ k, v.ownBlock = some k → base ≤ k ∧ k < w.heap.size := by
  obtain ⟨vs, _, h, _⟩ := h
  exact World.ownsRow.lt h
/-- An element: the cell holds the record's slice. -/
theorem Recs.at_ {g n c : Nat} (h : Recs w base (.slice (some ⟨g, 0, none⟩) n c) L) {j : Nat} (hj : j < L.length) : ∃ A d, w.cell? ⟨g, j, none⟩ = some (.slice A L[j].length d) ∧ Own w base (.slice A L[j].length d) L[j] := by
  obtain ⟨vs, h1, h2, h3⟩ := h
  obtain ⟨A', c', hv, _⟩ := own_slice h2
  injection hv with _ hn _
  subst hn
  obtain ⟨u, hu, ho⟩ := h3 j hj
  obtain ⟨A, d, rfl, _⟩ := ho.slice
  exact ⟨A, d, by rw [World.ownsRow.cellAt h2 j (by omega), hu], ho⟩
theorem Recs.addr {A : Option Addr} {n c : Nat} (h : Recs w base (.slice A n c) L) (hn : 0 < n) : ∃ g, A = some ⟨g, 0, none⟩ := by
  obtain ⟨vs, h1, h2, h3⟩ := h
  rcases h2.2 with ⟨e, _⟩ | ⟨g, cap, cur, e, _⟩
  · injection e with _ e _; omega
  · injection e with e _ _; exact ⟨g, e⟩
theorem run_append_recs (ty : TypeId) (hv : Recs w base v L) (hu : Own w base u l) {b : Nat} (hc : w.cell? ⟨b, 0, none⟩ = some u) (d : Nat) (hsz : L.length ≤ 1000000) (hbase : base ≤ w.heap.size) :
    ∃ A2 c2 w', (Builtin.append_ #[61, 61] ty #[v, .slice (some ⟨b, 0, none⟩) 1 d]).run Try.prog w = .ok (.slice A2 (L.length + 1) c2) w' ∧ Recs w' base (.slice A2 (L.length + 1) c2) (L ++ [l]) ∧ w.grownBy w' v.ownBlock := by
  obtain ⟨i0, hi, hz0, hz1, hz2⟩ := info_parts recinfo
  obtain ⟨vs, h1, h2, h3⟩ := hv
  have hn : ∀ j u', ([u] : List Value)[j]? = some u' → w.cell? ((⟨b, 0, none⟩ : Addr).add j) = some u' := by
    intro j u' hj
    match j, hj with
    | 0, hj =>
      simp at hj
      subst hj
      simpa [Addr.add] using hc
  have hone : ∀ u' ∈ [u], u'.oneCell' = true := by
    intro u' h'
    simp at h'
    subst h'
    obtain ⟨A, c, rfl, _⟩ := hu.slice
    rfl
  obtain ⟨v', w', hrun, g1, g2, _, _⟩ := run_append_own_at (P := Try.prog) w base 61 ty 22 i0 _ 1 24 Try.underlying61 hi hz0 hz1 hz2 rfl (by decide) v L.length vs h2 ⟨b, 0, none⟩ 1 d [u] rfl hn hone
    (by unfold maxLen; omega) (by omega) hbase
  obtain ⟨A2, c2, rfl, _⟩ := own_slice g1
  refine ⟨A2, c2, w', hrun, ⟨vs ++ [u], by simp [h1], by simpa using g1, fun j hj => ?_⟩, g2⟩
  by_cases hj' : j < L.length
  · obtain ⟨u', hu', ho'⟩ := h3 j hj'
    refine ⟨u', ?_, ?_⟩
    · rw [List.getElem?_append_left (by omega)]; exact hu'
    · rw [List.getElem_append_left hj']
      exact ho'.kept g2 (own_apart ho' h2)
  · have : j = L.length := by simp at hj; omega
    subst this
    refine ⟨u, ?_, ?_⟩
    · rw [List.getElem?_append_right (by omega), h1]; simp
    · rw [List.getElem_append_right (by omega)]
      simp only [Nat.sub_self, List.getElem_cons_zero]
      exact hu.kept g2 (own_apart hu h2)
theorem wpList_append_recs (hv : Recs w base v L) (hu : Own w base u l) {b : Nat} (hc : w.cell? ⟨b, 0, none⟩ = some u) {d : Nat} {ops : Array Oper} {rest : List Oper} {o : Oper} {a : Act} {Q : Exit → Act → World → Prop} (s x : Operand) (hgd : o.guard = none)
    (ho : o.op = .call { callee := .builtin .append, args := #[s, x], argTypes := #[61, 61] })
    (hs : a.eval s = v) (hx : a.eval x = .slice (some ⟨b, 0, none⟩) 1 d) (hsz : L.length ≤ 1000000) (hbase : base ≤ w.heap.size)
    (h : ∀ A2 c2 w', Recs w' base (.slice A2 (L.length + 1) c2) (L ++ [l]) → w.grownBy w' v.ownBlock → wpList Try.prog ops Q rest (a.put o.dst (.slice A2 (L.length + 1) c2)) w') : wpList Try.prog ops Q (o :: rest) a w :=
  wpList_plain hgd fun _ hK => by
    obtain ⟨A2, c2, w', hrun, h2, h3⟩ := run_append_recs o.type hv hu hc d hsz hbase
    unfold Oper.wp execOp
    simp only [ho, resolve, invoke, builtin, Sem.run_bind, Sem.run_pure, Result.andThen_ok, List.map_toArray, List.map_cons, List.map_nil, hs, hx, hrun]
    exact hK _ _ (h A2 c2 w' h2 h3)
end
end Go.Proofs.Ytiheeajepnpejaa
