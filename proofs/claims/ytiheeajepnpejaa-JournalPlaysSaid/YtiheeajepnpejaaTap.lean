/- A tape in memory: a struct's block, known whole, and its bytes in a row of the call's own. What a call that writes one block alone leaves as it was. -/
import Derived.Test.YtiheeajepnpejaaFrmR
import Derived.Test.YtiheeajepnpejaaTapMath
namespace Go.Proofs.Ytiheeajepnpejaa
open Go.RowKit TapM
/-- Block p is a struct's cells, none of them frozen. -/
def Cells (w : World) (p : Nat) (t : TypeId) (cs : Array Value) : Prop := w.heap[p]? = some (.cells cs t (0, 0))
section
variable {w w' w1 : World} {p q : Nat} {t : TypeId} {cs : Array Value} {v : Value} {l : List UInt8} {base : Nat} {row : Option Nat}
theorem Cells.lt (h : Cells w p t cs) : p < w.heap.size := (Array.getElem?_eq_some_iff.1 h).1
theorem Cells.cell (h : Cells w p t cs) (i : Nat) : w.cell? ⟨p, i, none⟩ = cs[i]? := cell_of_row w p i cs t (0, 0) h
theorem Cells.free (h : Cells w p t cs) (i : Nat) : w.frozen? ⟨p, i, none⟩ = false := by
  unfold Cells at h
  simp [World.frozen?, h]
theorem Cells.grown (h : Cells w p t cs) (hg : w.grownBy w' row) (hne : some p ≠ row) : Cells w' p t cs := (hg.block p h.lt hne).trans h
theorem Cells.below (h : Cells w p t cs) (hb : Below w.heap.size w w') : Cells w' p t cs := (hb.block p h.lt).trans h
theorem Cells.alloc (h : Cells w p t cs) (o : Obj) : Cells (w.alloc o) p t cs := h.below ((Below.refl _ _).alloc (Nat.le_refl _) o)
theorem Cells.drewN (h : Cells w p t cs) (k : Nat) : Cells (w.drewN k) p t cs := h
theorem Cells.store (h : Cells w p t cs) (i : Nat) (u : Value) : Cells (w.setCell ⟨p, i, none⟩ u) p t (cs.setIfInBounds i u) := by
  unfold Cells at h ⊢
  simp [World.setCell, Array.getElem?_modify, h]
theorem Cells.far (h : Cells w p t cs) {a : Addr} (hne : p ≠ a.block) (u : Value) : Cells (w.setCell a u) p t cs := (Below.heap_setCell w a u p hne).trans h
theorem Cells.new (w : World) (t : TypeId) (cs : Array Value) : Cells (w.alloc (.cells cs t)) w.heap.size t cs := heap_alloc_new w _
theorem Own.apart (h : Own w base v l) (hc : Cells w p t cs) (ht : t ≠ 5) : v.ownBlock ≠ some p := by
  rcases h.2 with ⟨rfl, _⟩ | ⟨g, cap, cur, rfl, _, hg, _⟩
  · simp [Value.ownBlock]
  · intro e
    simp [Value.ownBlock] at e
    subst e
    unfold Cells at hc
    rw [hg] at hc
    injection hc with hc
    injection hc with _ e2
    exact ht e2.symm
theorem Own.grown (h : Own w base v l) (hg : w.grownBy w' (some p)) (hc : Cells w p t cs) (ht : t ≠ 5) : Own w' base v l := h.kept hg (.inr (h.apart hc ht))
theorem Own.room {A : Option Addr} {n c : Nat} (h : Own w base (.slice A n c) l) : n ≤ c := by
  obtain ⟨A', c', hv, hc⟩ := h.slice
  injection hv with _ e e2
  subst e e2
  exact hc
/-- The first k bytes of a row. -/
theorem Own.take {A : Option Addr} {n c : Nat} (h : Own w base (.slice A n c) l) {k : Nat} (hk : k ≤ n) : Own w base (.slice A k c) (l.take k) := by
  have hl := h.length
  have ht : (l.take k).length = k := by rw [List.length_take]; omega
  refine ⟨by simp, ?_⟩
  rw [ht]
  rcases h.2 with ⟨e, e2⟩ | ⟨g, cap, cur, e, hb, hg, hc, hm, hs, hx⟩
  · injection e with e1 e2' e3
    subst e1 e3
    left
    exact ⟨by rw [show k = 0 from by omega], by omega⟩
  · injection e with e1 e2 e3
    subst e1 e3
    right
    refine ⟨g, c, cur, rfl, hb, hg, by omega, hm, hs, ?_⟩
    rw [List.map_take, ← hx, List.take_take, Nat.mul_one, Nat.mul_one, Nat.min_eq_left (by omega)]
theorem only_refl (w : World) (row : Option Nat) : w.grownBy w row := ⟨rfl, rfl, rfl, Nat.le_refl _, fun _ _ _ => rfl⟩
theorem only_drewN (h : w.grownBy w' row) (n : Nat) : w.grownBy (w'.drewN n) row := ⟨h.os, h.tape, h.output, h.size, h.block⟩
theorem only_trans (h : w.grownBy w1 row) (k : w1.grownBy w' row) : w.grownBy w' row :=
  ⟨k.os.trans h.os, k.tape.trans h.tape, k.output.trans h.output, Nat.le_trans h.size k.size, fun i hi hne => (k.block i (Nat.lt_of_lt_of_le hi h.size) hne).trans (h.block i hi hne)⟩
theorem only_below (h : w.grownBy w1 row) (k : Below w1.heap.size w1 w') : w.grownBy w' row :=
  only_trans h ⟨k.os, k.tape, k.output, k.size, fun i hi _ => k.block i hi⟩
theorem only_of (k : Below w.heap.size w w') (row : Option Nat) : w.grownBy w' row := only_below (only_refl w row) k
theorem only_alloc (h : w.grownBy w' row) (o : Obj) : w.grownBy (w'.alloc o) row := only_below h ((Below.refl _ _).alloc (Nat.le_refl _) o)
theorem only_store (h : w.grownBy w' (some p)) (i : Nat) (u : Value) : w.grownBy (w'.setCell ⟨p, i, none⟩ u) (some p) :=
  ⟨h.os, h.tape, h.output, by simpa [World.setCell] using h.size, fun k hk hne => (Below.heap_setCell w' ⟨p, i, none⟩ u k (by rintro rfl; exact hne rfl)).trans (h.block k hk hne)⟩
/-- A store into a block that is new. -/
theorem only_store_new (h : w.grownBy w' row) {g : Nat} (hg : w.heap.size ≤ g) (i : Nat) (u : Value) : w.grownBy (w'.setCell ⟨g, i, none⟩ u) row :=
  ⟨h.os, h.tape, h.output, by simpa [World.setCell] using h.size, fun k hk hne => (Below.heap_setCell w' ⟨g, i, none⟩ u k (by show k ≠ g; omega)).trans (h.block k hk hne)⟩
theorem below_only {B : Nat} {a : World} (hb : Below B a w) (hg : w.grownBy w' (some p)) (hB : B ≤ p) (hp : p < w.heap.size) : Below B a w' :=
  hb.grown hg (by omega) fun k hk => by injection hk with hk; omega
theorem Bs.only {A : Option Addr} {n : Nat} (h : Bs w A n l) (hg : w.grownBy w' (some p)) (hp : ∀ b o, A = some ⟨b, o, none⟩ → 0 < n → b ≠ p) : Bs w' A n l := by
  rcases Nat.eq_zero_or_pos n with h0 | h0
  · exact ⟨h.1, .inl h0⟩
  · refine h.keep fun b o v hb hc => hg.cell hc ?_
    intro e
    injection e with e
    obtain ⟨o', ho'⟩ := hb h0
    exact hp b o' ho' h0 e
end

/-! ### A tape -/
theorem tape_ne : (57 : TypeId) ≠ 5 := by decide
def tcells (s : TS) (A : Option Addr) (c : Nat) : Array Value := #[.int .i64 (s.cap : Int), .slice A s.b.length c, .int .i64 (s.safe : Int), .int .i64 s.fuse, .bool s.lost]
/-- At block p lies a tape that is s. -/
def TapeAt (w : World) (p : Nat) (s : TS) : Prop := s.Ok ∧ ∃ A c, Cells w p 57 (tcells s A c) ∧ Own w (p + 1) (.slice A s.b.length c) s.b
section
variable {w w' : World} {p q : Nat} {s s' : TS}
theorem TapeAt.ok (h : TapeAt w p s) : s.Ok := h.1
theorem TapeAt.lt (h : TapeAt w p s) : p < w.heap.size := by
  obtain ⟨_, A, c, hc, _⟩ := h
  exact hc.lt
theorem TapeAt.below (h : TapeAt w p s) (hb : Below w.heap.size w w') : TapeAt w' p s := by
  obtain ⟨h0, A, c, hc, ho⟩ := h
  exact ⟨h0, A, c, hc.below hb, ho.below hb⟩
theorem TapeAt.drewN (h : TapeAt w p s) (k : Nat) : TapeAt (w.drewN k) p s := h
theorem TapeAt.apart (h : TapeAt w p s) {base : Nat} {v : Value} {l : List UInt8} (ho : Own w base v l) : v.ownBlock ≠ some p := by
  obtain ⟨_, A, c, hc, _⟩ := h
  exact ho.apart hc tape_ne
/-- Another tape's turn. -/
theorem TapeAt.other (h : TapeAt w q s) (hp : TapeAt w p s') (hg : w.grownBy w' (some p)) (hne : q ≠ p) : TapeAt w' q s := by
  obtain ⟨h0, A, c, hc, ho⟩ := h
  obtain ⟨_, A', c', hc', _⟩ := hp
  exact ⟨h0, A, c, hc.grown hg (by simpa using hne), ho.grown hg hc' tape_ne⟩
/-- A turn of another block. -/
theorem TapeAt.far (h : TapeAt w p s) {t : TypeId} {cs : Array Value} (hq : Cells w q t cs) (ht : t ≠ 5) (hne : p ≠ q) (hg : w.grownBy w' (some q)) : TapeAt w' p s := by
  obtain ⟨h0, A, c, hc, ho⟩ := h
  exact ⟨h0, A, c, hc.grown hg (by simpa using hne), ho.grown hg hq ht⟩
theorem Own.tape {base : Nat} {v : Value} {l : List UInt8} (ho : Own w base v l) (h : TapeAt w p s) (hg : w.grownBy w' (some p)) : Own w' base v l := ho.kept hg (.inr (h.apart ho))
theorem TapeAt.cells (h : TapeAt w p s) : ∃ A c, w.cell? ⟨p, 0, none⟩ = some (.int .i64 (s.cap : Int)) ∧ w.cell? ⟨p, 1, none⟩ = some (.slice A s.b.length c) ∧ w.cell? ⟨p, 2, none⟩ = some (.int .i64 (s.safe : Int)) ∧
    w.cell? ⟨p, 3, none⟩ = some (.int .i64 s.fuse) ∧ w.cell? ⟨p, 4, none⟩ = some (.bool s.lost) ∧ Own w (p + 1) (.slice A s.b.length c) s.b ∧ Cells w p 57 (tcells s A c) := by
  obtain ⟨_, A, c, hc, ho⟩ := h
  exact ⟨A, c, hc.cell 0, hc.cell 1, hc.cell 2, hc.cell 3, hc.cell 4, ho, hc⟩
theorem TapeAt.free (h : TapeAt w p s) : ∀ i, w.frozen? ⟨p, i, none⟩ = false := by
  obtain ⟨_, A, c, hc, ho⟩ := h
  exact hc.free
end
end Go.Proofs.Ytiheeajepnpejaa
