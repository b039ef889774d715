/- Words for bytes in memory, over this seat's program: a slice that reads as a list of bytes; what a call leaves as it was. -/
import Derived.Test.YtiheeajepnpejaaProg
import Derived.WalkKit
import Derived.WalkLawsBesides
import Derived.WalkSpells
import Derived.Lib.Hide
import Derived.Lib.SlBytesConst
import Derived.Maps.AppendAt
import Derived.Deep.AppendLies
import Derived.Deep.Draws
import Derived.KernelRfl
namespace Go.Proofs.Ytiheeajepnpejaa
open Go.RowKit

/-- A byte's cell. -/
def bv (b : UInt8) : Value := .int .u8 (b.toNat : Int)
theorem bv_one : ∀ (l : List UInt8), ∀ u ∈ l.map bv, u.oneCell' = true := by
  intro l u hu
  obtain ⟨b, _, rfl⟩ := List.mem_map.1 hu
  rfl
/-- The slice of n bytes at A reads as the list l. -/
def Bs (w : World) (A : Option Addr) (n : Nat) (l : List UInt8) : Prop :=
  l.length = n ∧ (n = 0 ∨ ∃ b o, A = some ⟨b, o, none⟩ ∧ ∀ j (h : j < l.length), w.cell? ⟨b, o + j, none⟩ = some (.int .u8 (l[j].toNat : Int)))

section
variable {w w' : World} {A : Option Addr} {n : Nat} {l : List UInt8}
theorem add_none (b o j : Nat) : (⟨b, o, none⟩ : Addr).add j = ⟨b, o + j, none⟩ := by
  unfold Addr.add
  by_cases h : j = 0 <;> simp [h]
theorem Bs.nil (w : World) (A : Option Addr) : Bs w A 0 [] := ⟨rfl, .inl rfl⟩
theorem Bs.at_ (h : Bs w A n l) {j : Nat} (hj : j < n) : ∃ b o, A = some ⟨b, o, none⟩ ∧ w.cell? ⟨b, o + j, none⟩ = some (.int .u8 ((l[j]'(by rw [h.1]; exact hj)).toNat : Int)) := by
  obtain ⟨rfl, hA⟩ := h
  obtain ⟨b, o, hA, hc⟩ := hA.resolve_left (by omega)
  exact ⟨b, o, hA, hc j hj⟩
theorem cell_lt {w : World} {b o : Nat} {v : Value} (h : w.cell? ⟨b, o, none⟩ = some v) : b < w.heap.size := World.block_lt_of_cell? w ⟨b, o, none⟩ h
theorem Bs.keep (h : Bs w A n l) (hk : ∀ (b o : Nat) (v : Value), (0 < n → ∃ o, A = some ⟨b, o, none⟩) → w.cell? ⟨b, o, none⟩ = some v → w'.cell? ⟨b, o, none⟩ = some v) : Bs w' A n l := by
  obtain ⟨hl, hA⟩ := h
  refine ⟨hl, ?_⟩
  rcases hA with h0 | ⟨b, o, rfl, hc⟩
  · exact .inl h0
  · exact .inr ⟨b, o, rfl, fun j hj => hk b (o + j) _ (fun _ => ⟨o, rfl⟩) (hc j hj)⟩
theorem cell_below {w w' : World} (hb : Below w.heap.size w w') {p : Addr} {v : Value} (h : w.cell? p = some v) : w'.cell? p = some v :=
  (hb.cell (World.block_lt_of_cell? w p h)).trans h
theorem Bs.below (h : Bs w A n l) (hb : Below w.heap.size w w') : Bs w' A n l := h.keep fun _ _ _ _ hc => cell_below hb hc
theorem Bs.drew (h : Bs w A n l) : Bs w.drew A n l := h
theorem Bs.drewN (h : Bs w A n l) (k : Nat) : Bs (w.drewN k) A n l := h
theorem Bs.alloc (h : Bs w A n l) (o : Obj) : Bs (w.alloc o) A n l := h.below ((Below.refl _ _).alloc (Nat.le_refl _) o)
theorem Bs.setCell (h : Bs w A n l) {p : Addr} (hp : ∀ b o, A = some ⟨b, o, none⟩ → 0 < n → b ≠ p.block) (u : Value) : Bs (w.setCell p u) A n l := by
  obtain ⟨hl, hA⟩ := h
  refine ⟨hl, ?_⟩
  rcases hA with h0 | ⟨b, o, rfl, hc⟩
  · exact .inl h0
  · refine .inr ⟨b, o, rfl, fun j hj => ?_⟩
    rw [World.cell?_setCell_other w p ⟨b, o + j, none⟩ u (fun e => hp b o rfl (by omega) (by rw [e]))]
    exact hc j hj
/-- A slice's cut. -/
theorem Bs.cut (h : Bs w A n l) {k : Nat} (hk : k ≤ n) (m : Nat) (hm : m ≤ n - k) (hA' : 0 < m → ∃ b o, A = some ⟨b, o, none⟩) :
    ∀ A' : Option Addr, (∀ b o, A = some ⟨b, o, none⟩ → 0 < m → A' = some ⟨b, o + k, none⟩) → Bs w A' m ((l.drop k).take m) := by
  intro A' hA1
  obtain ⟨rfl, hA⟩ := h
  refine ⟨by simp; omega, ?_⟩
  by_cases h0 : m = 0
  · exact .inl h0
  · obtain ⟨b, o, rfl, hc⟩ := hA.resolve_left (by omega)
    refine .inr ⟨b, o + k, hA1 b o rfl (by omega), fun j hj => ?_⟩
    simp at hj
    have := hc (k + j) (by omega)
    rw [Nat.add_assoc, this]
    simp
/-- Out of a row that the call made. -/
theorem Bs.own {base : Nat} {e : TypeId} {c : Nat} (h : w.ownsRow base e 1 (.slice A n c) n (l.map bv)) : Bs w A n l := by
  have hl : l.length = n := by simpa using h.1
  refine ⟨hl, ?_⟩
  by_cases h0 : n = 0
  · exact .inl h0
  · obtain ⟨g, cap, hv, _, _⟩ := h.form (by omega)
    have hA : A = some ⟨g, 0, none⟩ := by injection hv
    subst hA
    refine .inr ⟨g, 0, rfl, fun j hj => ?_⟩
    have := h.cells (g := g) rfl j (bv l[j]) (by simp [hj])
    rw [add_none] at this
    exact this
/-- As an append's source. -/
theorem Bs.news {b o : Nat} (h : Bs w (some ⟨b, o, none⟩) n l) : ∀ j u, (l.map bv)[j]? = some u → w.cell? ((⟨b, o, none⟩ : Addr).add j) = some u := by
  obtain ⟨hl, hA⟩ := h
  intro j u hu
  rw [List.getElem?_map] at hu
  by_cases hj : j < l.length
  · rw [List.getElem?_eq_getElem hj] at hu
    injection hu with hu
    subst hu
    obtain ⟨b', o', e, hc⟩ := hA.resolve_left (by omega)
    injection e with e
    injection e with e1 e2
    subst e1 e2
    rw [add_none]
    exact hc j hj
  · rw [List.getElem?_eq_none (by omega)] at hu
    cases hu
end

/-- What an ownsRow's slice is. -/
theorem own_slice {w : World} {base : Nat} {e : TypeId} {size n : Nat} {v : Value} {xs : List Value} (h : w.ownsRow base e size v n xs) : ∃ A c, v = .slice A n c ∧ n ≤ c := by
  rcases h.2 with ⟨rfl, rfl⟩ | ⟨g, cap, cur, rfl, _, _, hc, _⟩
  · exact ⟨none, 0, rfl, Nat.le_refl _⟩
  · exact ⟨_, cap, rfl, hc⟩

theorem u8info : (Try.prog.info? 5).map (fun i => (i.zero, i.size, i.bytes)) = some (some (.int .u8 0), 1, 1) := by kernel_rfl

/-- One call behind another one. -/
theorem chain {w w1 w2 : World} (h : Below w.heap.size w w1) (k : Below w1.heap.size w1 w2) : Below w.heap.size w w2 := h.trans (k.mono h.size)

/-! ### A row of bytes that the call made -/
/-- v is a slice of the call's own, in a row from block base on; its bytes are l. -/
def Own (w : World) (base : Nat) (v : Value) (l : List UInt8) : Prop := w.ownsRow base 5 1 v l.length (l.map bv)
section
variable {w w' : World} {base : Nat} {v : Value} {l r : List UInt8}
theorem Own.nil (w : World) (base : Nat) : Own w base (.slice none 0 0) [] := World.ownsRow_nil w base _ 1
theorem Own.slice (h : Own w base v l) : ∃ A c, v = .slice A l.length c ∧ l.length ≤ c := own_slice h
theorem Own.bs {A : Option Addr} {n c : Nat} (h : Own w base (.slice A n c) l) : Bs w A n l := by
  obtain ⟨A', c', hv, _⟩ := h.slice
  injection hv with _ hn _
  subst hn
  exact Bs.own h
theorem Own.kept {row : Option Nat} (h : Own w base v l) (hg : w.grownBy w' row) (hne : v.ownBlock = none ∨ v.ownBlock ≠ row) : Own w' base v l := World.ownsRow.kept h hg hne
theorem Own.below (h : Own w base v l) (hb : Below w.heap.size w w') : Own w' base v l :=
  World.ownsRow.kept (row := none) h ⟨hb.os, hb.tape, hb.output, hb.size, fun k hk _ => hb.block k hk⟩ (by cases v.ownBlock <;> simp)
theorem Own.alloc (h : Own w base v l) (o : Obj) : Own (w.alloc o) base v l := World.ownsRow.alloc h o
theorem Own.drew (h : Own w base v l) : Own w.drew base v l := h
theorem Own.mono {b : Nat} (h : Own w base v l) (hb : b ≤ base) : Own w b v l := by
  refine ⟨h.1, ?_⟩
  rcases h.2 with h | ⟨g, cap, cur, hv, hg, r⟩
  · exact .inl h
  · exact .inr ⟨g, cap, cur, hv, Nat.le_trans hb hg, r⟩
theorem Own.at_block (h : Own w base v l) : ∀ k, v.ownBlock = some k → base ≤ k ∧ k < w.heap.size := World.ownsRow.lt h
/-- A literal's row. -/
theorem Own.lit (w : World) (l : List UInt8) (hb : base ≤ w.heap.size) (hm : l.length ≤ maxLen) :
    Own (w.alloc (.cells (l.map bv).toArray 5)) base (.slice (some ⟨w.heap.size, 0, none⟩) l.length l.length) l :=
  ⟨by simp, .inr ⟨w.heap.size, l.length, _, rfl, hb, heap_alloc_new w _, Nat.le_refl _, hm, by simp, by simp [← List.map_take]⟩⟩
theorem Own.open_ (h : Own w base v l) (hl : 0 < l.length) : ∃ g c, v = .slice (some ⟨g, 0, none⟩) l.length c ∧ base ≤ g ∧ g < w.heap.size ∧
    (∀ j (hj : j < l.length), w.cell? ⟨g, j, none⟩ = some (.int .u8 (l[j].toNat : Int))) ∧ ∀ j, w.frozen? ⟨g, j, none⟩ = false := by
  obtain ⟨g, c, rfl, hb, hlt⟩ := World.ownsRow.form h hl
  refine ⟨g, c, rfl, hb, hlt, fun j hj => ?_, fun j => h.frozenAt j⟩
  rw [h.cellAt j (by omega), List.getElem?_map, List.getElem?_eq_getElem hj]
  rfl
theorem Own.store {g n c : Nat} (h : Own w base (.slice (some ⟨g, 0, none⟩) n c) l) (j : Nat) (b : UInt8) :
    Own (w.setCell ⟨g, j, none⟩ (.int .u8 (b.toNat : Int))) base (.slice (some ⟨g, 0, none⟩) n c) (l.set j b) := by
  obtain ⟨A', c', hv, _⟩ := h.slice
  injection hv with _ hn _
  subst hn
  have := World.ownsRow.stored h j (.int .u8 (b.toNat : Int))
  show World.ownsRow _ _ _ _ _ (l.set j b).length ((l.set j b).map bv)
  rw [List.length_set, List.map_set]
  exact this.1
theorem xor_u8 (a b : UInt8) : bits .xor .u8 (a.toNat : Int) (b.toNat : Int) = ((a ^^^ b).toNat : Int) := by
  rw [u8_xor_nat _ _ a.toNat_lt b.toNat_lt, UInt8.toNat_xor]
/-- Bytes that stand in a new block, as they are typed. -/
theorem Bs.lit (w : World) (e : TypeId) (l : List UInt8) (cs : Array Value) (m : Nat × Nat) (hcs : cs.toList = l.map bv) : Bs (w.alloc (.cells cs e m)) (some ⟨w.heap.size, 0, none⟩) l.length l := by
  refine ⟨rfl, .inr ⟨w.heap.size, 0, rfl, fun j hj => ?_⟩⟩
  rw [Nat.zero_add, World.cell?, show (w.alloc (.cells cs e m)).heap[w.heap.size]? = some (.cells cs e m) from by show (w.heap.push _)[_]? = _; simp]
  show cs[j]? = _
  rw [← Array.getElem?_toList, hcs, List.getElem?_map, List.getElem?_eq_getElem hj]
  rfl
theorem Bs.one (w : World) (e : TypeId) (b : UInt8) : Bs (w.alloc (.cells #[.int .u8 (b.toNat : Int)] e)) (some ⟨w.heap.size, 0, none⟩) 1 [b] := Bs.lit w e [b] _ _ rfl
theorem run_append_nil' {P : Program} {size n : Nat} {xs : List Value} (t ty e : TypeId) (i : TypeInfo) (ht : P.underlying t = some (.slice e)) (hi : P.info? e = some i)
    (hown : w.ownsRow base e size v n xs) (c : Nat) : (Builtin.append_ #[t, t] ty #[v, .slice none 0 c]).run P w = .ok v w := by
  rcases hown.2 with ⟨rfl, rfl⟩ | ⟨g, cap, cur, rfl, _, _, hnc, _⟩
  · simp [Builtin.append_, run_underlying ht, sizeOf, typeInfo, hi, Builtin.lenOf, Builtin.firstCells]
  · simp [Builtin.append_, run_underlying ht, sizeOf, typeInfo, hi, Builtin.lenOf, Builtin.firstCells, hnc, storeCells]
theorem run_append_bytes (ty : TypeId) (hown : Own w base v l) {A : Option Addr} {m : Nat} (c : Nat) (hr : Bs w A m r) (hsz : l.length + m ≤ 100000000) (hbase : base ≤ w.heap.size) :
    ∃ v' w', (Builtin.append_ #[22, 22] ty #[v, .slice A m c]).run Try.prog w = .ok v' w' ∧ Own w' base v' (l ++ r) ∧ w.grownBy w' v.ownBlock ∧
      (v'.ownBlock = v.ownBlock ∨ v'.ownBlock = some w.heap.size) := by
  obtain ⟨i0, hi, hz0, hz1, hz2⟩ := info_parts u8info
  rcases A with _ | ad
  · have hm : m = 0 := by
      rcases hr.2 with h | ⟨b, o, e, _⟩
      · exact h
      · cases e
    subst hm
    have : r = [] := List.eq_nil_of_length_eq_zero hr.1
    subst this
    exact ⟨v, w, run_append_nil' _ ty _ i0 Try.underlying22 hi hown c, by simpa using hown, World.grownBy.refl w _, .inl rfl⟩
  · have hn : ∀ j u, (r.map bv)[j]? = some u → w.cell? (ad.add j) = some u := by
      rcases hr.2 with h | ⟨b, o, e, hc⟩
      · have : r = [] := List.eq_nil_of_length_eq_zero (by rw [hr.1, h])
        subst this
        intro j u hu
        simp at hu
      · injection e with e
        subst e
        exact hr.news
    obtain ⟨v', w', hrun, h2, h3, _, h5⟩ := run_append_own_at (P := Try.prog) w base 22 ty 5 i0 _ 1 1 Try.underlying22 hi hz0 hz1 hz2 rfl (by decide) v l.length (l.map bv) hown ad m c (r.map bv) (by simp [hr.1]) hn (bv_one r)
      (by unfold maxLen; omega) (by omega) hbase
    refine ⟨v', w', hrun, ?_, h3, h5⟩
    show w'.ownsRow _ _ _ _ (l ++ r).length ((l ++ r).map bv)
    rw [List.length_append, hr.1, List.map_append]
    exact h2
theorem wp_append_bytes {o : Oper} {a : Act} {K : Act → World → Prop} {Q : Exit → Act → World → Prop} (s x : Operand)
    (ho : o.op = .call { callee := .builtin .append, args := #[s, x], argTypes := #[22, 22] })
    (hs : a.eval s = v) (hown : Own w base v l) {A : Option Addr} {m c : Nat} (hx : a.eval x = .slice A m c) (hr : Bs w A m r) (hsz : l.length + m ≤ 100000000) (hbase : base ≤ w.heap.size)
    (h : ∀ v' w', Own w' base v' (l ++ r) → w.grownBy w' v.ownBlock → (v'.ownBlock = v.ownBlock ∨ v'.ownBlock = some w.heap.size) → K (a.put o.dst v') w') : o.wp Try.prog a w K Q := by
  obtain ⟨v', w', hrun, h2, h3, h4⟩ := run_append_bytes o.type hown c hr hsz hbase
  unfold Oper.wp execOp
  simp only [ho, resolve, invoke, builtin, Sem.run_bind, Sem.run_pure, Result.andThen_ok, List.map_toArray, List.map_cons, List.map_nil, hs, hx, hrun]
  exact h v' w' h2 h3 h4
theorem wpList_append_bytes {A : Option Addr} {m c : Nat} (hown : Own w base v l) (hr : Bs w A m r) {ops : Array Oper} {rest : List Oper} {o : Oper} {a : Act} {Q : Exit → Act → World → Prop} (s x : Operand) (hgd : o.guard = none)
    (ho : o.op = .call { callee := .builtin .append, args := #[s, x], argTypes := #[22, 22] })
    (hs : a.eval s = v) (hx : a.eval x = .slice A m c) (hsz : l.length + m ≤ 100000000) (hbase : base ≤ w.heap.size)
    (h : ∀ v' w', Own w' base v' (l ++ r) → w.grownBy w' v.ownBlock → (v'.ownBlock = v.ownBlock ∨ v'.ownBlock = some w.heap.size) → wpList Try.prog ops Q rest (a.put o.dst v') w') : wpList Try.prog ops Q (o :: rest) a w :=
  wpList_plain hgd fun _ hK => wp_append_bytes s x ho hs hown hx hr hsz hbase fun v' w' h2 h3 h4 => hK _ _ (h v' w' h2 h3 h4)
theorem Own.cell {g n c : Nat} (h : Own w base (.slice (some ⟨g, 0, none⟩) n c) l) {j : Nat} (hj : j < l.length) : w.cell? ⟨g, j, none⟩ = some (.int .u8 (l[j].toNat : Int)) := by
  obtain ⟨A', c', hv, _⟩ := h.slice
  injection hv with _ hn _
  subst hn
  rw [World.ownsRow.cellAt h j (by omega), List.getElem?_map, List.getElem?_eq_getElem hj]
  rfl
theorem Own.at_ {g n c : Nat} (h : Own w base (.slice (some ⟨g, 0, none⟩) n c) l) {j : Nat} (hj : j < l.length) : ∃ x : UInt8, Hid (l.getD j 0 = x) ∧ w.cell? ⟨g, j, none⟩ = some (.int .u8 (x.toNat : Int)) :=
  ⟨l[j], by show l.getD j 0 = _; simp [List.getD, List.getElem?_eq_getElem hj], h.cell hj⟩
theorem Own.free {g n c : Nat} (h : Own w base (.slice (some ⟨g, 0, none⟩) n c) l) (j : Nat) : w.frozen? ⟨g, j, none⟩ = false := by
  obtain ⟨A', c', hv, _⟩ := h.slice
  injection hv with _ hn _
  subst hn
  exact World.ownsRow.frozenAt h j
/-- An append: the value as a slice of whatever address. -/
theorem wpList_append_sl {A : Option Addr} {m c : Nat} (hown : Own w base v l) (hr : Bs w A m r) {ops : Array Oper} {rest : List Oper} {o : Oper} {a : Act} {Q : Exit → Act → World → Prop} (L : List UInt8) (s x : Operand) (hgd : o.guard = none)
    (ho : o.op = .call { callee := .builtin .append, args := #[s, x], argTypes := #[22, 22] })
    (hs : a.eval s = v) (hx : a.eval x = .slice A m c) (hL : l ++ r = L) (N : Nat) (hN : L.length = N) (hsz : N ≤ 100000000) (hbase : base ≤ w.heap.size)
    (h : ∀ A2 c2 w', Own w' base (.slice A2 N c2) L → w.grownBy w' v.ownBlock → ((Value.slice A2 N c2).ownBlock = v.ownBlock ∨ (Value.slice A2 N c2).ownBlock = some w.heap.size) →
      wpList Try.prog ops Q rest (a.put o.dst (.slice A2 N c2)) w') : wpList Try.prog ops Q (o :: rest) a w := by
  subst hN
  refine wpList_append_bytes hown hr s x hgd ho hs hx (by rw [← hr.1, ← List.length_append, hL]; exact hsz) hbase fun v' w' h1 h2 h3 => ?_
  rw [hL] at h1
  obtain ⟨A2, c2, rfl, _⟩ := h1.slice
  exact h A2 c2 w' h1 h2 h3
/-- A slice of the call's own that isn't empty lies at a block's head. -/
theorem Own.addr {A : Option Addr} {n c : Nat} (h : Own w base (.slice A n c) l) (hn : 0 < n) : ∃ g, A = some ⟨g, 0, none⟩ ∧ base ≤ g ∧ g < w.heap.size := by
  obtain ⟨A', c', hv, _⟩ := h.slice
  injection hv with _ e _
  obtain ⟨g, c2, e2, hb, hlt, _⟩ := h.open_ (by omega)
  injection e2 with e2 _ _
  exact ⟨g, e2, hb, hlt⟩
theorem Own.length {A : Option Addr} {n c : Nat} (h : Own w base (.slice A n c) l) : l.length = n := by
  obtain ⟨A', c', hv, _⟩ := h.slice
  injection hv with _ e _
  exact e.symm
/-- An append behind which there is something: the value written out. -/
theorem wpList_append_at {A : Option Addr} {m c : Nat} (hown : Own w base v l) (hr : Bs w A m r) {ops : Array Oper} {rest : List Oper} {o : Oper} {a : Act} {Q : Exit → Act → World → Prop} (L : List UInt8) (s x : Operand) (hgd : o.guard = none)
    (ho : o.op = .call { callee := .builtin .append, args := #[s, x], argTypes := #[22, 22] })
    (hs : a.eval s = v) (hx : a.eval x = .slice A m c) (hL : l ++ r = L) (hpos : 0 < L.length) (hsz : L.length ≤ 100000000) (hbase : base ≤ w.heap.size)
    (h : ∀ g c2 w', Own w' base (.slice (some ⟨g, 0, none⟩) L.length c2) L → w.grownBy w' v.ownBlock → (v.ownBlock = some g ∨ g = w.heap.size) → base ≤ g → g < w'.heap.size →
      wpList Try.prog ops Q rest (a.put o.dst (.slice (some ⟨g, 0, none⟩) L.length c2)) w') : wpList Try.prog ops Q (o :: rest) a w := by
  refine wpList_append_bytes hown hr s x hgd ho hs hx (by rw [← hr.1, ← List.length_append, hL]; exact hsz) hbase fun v' w' h1 h2 h3 => ?_
  rw [hL] at h1
  obtain ⟨g, c2, rfl, hb, hlt, _⟩ := h1.open_ hpos
  refine h g c2 w' h1 h2 ?_ hb hlt
  rcases h3 with h3 | h3
  · exact .inl h3.symm
  · right
    simpa [Value.ownBlock] using h3
/-- What an append leaves below the call's own rows. -/
theorem below_append {B : Nat} {a w w' : World} {v : Value} (hb : Below B a w) (hown : Own w B v l) (hg : w.grownBy w' v.ownBlock) (hB : B ≤ w.heap.size) : Below B a w' :=
  hb.grown hg hB fun k hk => (hown.at_block k hk).1
end

/-! ### A string of bytes -/
theorem foldl_bytes (l : List UInt8) : ∀ s : ByteArray, (l.map fun b => (b.toNat : Int)).foldl (fun r n => r.push (UInt8.ofNat n.toNat)) s = ⟨s.data ++ l.toArray⟩ := by
  induction l with
  | nil => intro s; simp
  | cons b l ih =>
    intro s
    rw [List.map_cons, List.foldl_cons, ih]
    simp [ByteArray.push]
theorem run_string_of {P : Program} {src dst e : TypeId} (hs : P.underlying src = some (.slice e)) (he : P.underlying e = some (.int .u8)) (hd : P.underlying dst = some .string)
    {w : World} {A : Option Addr} {n : Nat} {l : List UInt8} (c : Nat) (h : Bs w A n l) : (convert src dst (.slice A n c)).run P w = .ok (.string ⟨l.toArray⟩) w := by
  rw [run_convert_bytes_string w src dst e A n c hs he hd]
  rcases Nat.eq_zero_or_pos n with h0 | h0
  · subst h0
    have : l = [] := List.eq_nil_of_length_eq_zero h.1
    subst this
    rcases A with _ | a
    · simp [Conv.bytesToString]
      rfl
    · have hl : (loadCells a 0).run P w = .ok (([] : List Int).map (Value.int .u8)).toArray w := by simp [loadCells, loadCellsFrom]
      rw [run_bytesToString w a 0 c _ hl]
      rfl
  · obtain ⟨b, o, rfl, _⟩ := h.2.resolve_left (by omega)
    have hl : (loadCells ⟨b, o, none⟩ n).run P w = .ok ((l.map fun b => (b.toNat : Int)).map (Value.int .u8)).toArray w := by
      have := run_loadCells_list (P := P) w ⟨b, o, none⟩ (l.map bv) h.news
      simp only [List.length_map, h.1] at this
      rw [this, List.map_map]
      rfl
    rw [run_bytesToString w _ _ c _ hl, foldl_bytes]
    simp [ByteArray.empty, ByteArray.emptyWithCapacity]
    rfl
end Go.Proofs.Ytiheeajepnpejaa
