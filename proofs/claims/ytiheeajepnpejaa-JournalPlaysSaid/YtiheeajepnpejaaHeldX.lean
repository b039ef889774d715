/- A region that draws its order: a load may be taken first where whoever writes its cell waits for it. No program in sight. -/
import Derived.Deep.RegionHeld
namespace Go.Proofs.Ytiheeajepnpejaa
open Go
section
variable {P : Program} {ops : Array Oper} {Q : Exit → Act → World → Prop} {md : Region.Mode} {S : World → Prop} {skip : Nat → Bool}
/-- Whatever order is picked from here on, and S holds behind every operation that is carried out, but for those that are skipped. -/
def anyX (P : Program) (md : Region.Mode) (ops : Array Oper) (Q : Exit → Act → World → Prop) (S : World → Prop) (skip : Nat → Bool) : Nat → Array Bool → Act → World → Prop
  | 0, listed, a, w => Region.ready md ops listed = [] ∧ Q .normal a w
  | fuel + 1, listed, a, w =>
    (Region.ready md ops listed = [] → Q .normal a w) ∧
    ∀ i ∈ Region.ready md ops listed, wpOp P ops Q i (fun a' w' => (skip i = false → S w') ∧ anyX P md ops Q S skip fuel (listed.setIfInBounds i true) a' w') a w
theorem any_of_X : ∀ (fuel : Nat) (listed : Array Bool) (a : Act) (w : World), anyX P md ops Q S skip fuel listed a w → wpAny P md ops Q fuel listed a w
  | 0, _, _, _, h => h
  | fuel + 1, _, _, _, h => ⟨h.1, fun i hi => wpOp_mono (fun a' w' h' => any_of_X fuel _ a' w' h'.2) (h.2 i hi)⟩
/-- Number j waits for number i, at most n steps on. -/
def reachX (md : Region.Mode) (ops : Array Oper) : Nat → Nat → Nat → Bool
  | 0, _, _ => false
  | n + 1, j, i => match ops[j]? with
    | some o => o.after.any (fun e => Region.binds md e && e.on == i) || o.after.any (fun e => Region.binds md e && reachX md ops n e.on i)
    | none => false
/-- Who is skipped waits for number i. -/
def waitsX (md : Region.Mode) (ops : Array Oper) (skip : Nat → Bool) (i : Nat) : Bool := (List.range ops.size).all fun j => !skip j || reachX md ops ops.size j i
/-- Who has come up has come up behind those that it waits for. -/
def ClosedX (md : Region.Mode) (ops : Array Oper) (listed : Array Bool) : Prop :=
  ∀ k ok, ops[k]? = some ok → listed.getD k true = true → ∀ e ∈ ok.after, Region.binds md e = true → listed.getD e.on false = true
def closedX (md : Region.Mode) (ops : Array Oper) (listed : Array Bool) : Bool :=
  (List.range ops.size).all fun k => !listed.getD k true || (match ops[k]? with
    | some o => o.after.all fun e => !Region.binds md e || listed.getD e.on false
    | none => true)
theorem closedX_spec {listed : Array Bool} (h : closedX md ops listed = true) : ClosedX md ops listed := by
  intro k ok hk hl e he hb
  simp only [closedX, List.all_eq_true, List.mem_range] at h
  have h1 := h k (Array.getElem?_eq_some_iff.1 hk).1
  simp only [hk, hl, Bool.not_true, Bool.false_or] at h1
  obtain ⟨n, hn, rfl⟩ := Array.getElem_of_mem he
  have h2 := Array.all_eq_true.1 h1 n hn
  simpa [hb] using h2
theorem reachX_listed {listed : Array Bool} (hc : ClosedX md ops listed) : ∀ (n j i : Nat) (oj : Oper), ops[j]? = some oj → (∀ e ∈ oj.after, Region.binds md e = true → listed.getD e.on false = true) → reachX md ops n j i = true → listed.getD i false = true
  | 0, _, _, _, _, _, h => by simp [reachX] at h
  | n + 1, j, i, oj, hj, hp, h => by
    simp only [reachX, hj, Bool.or_eq_true] at h
    rcases h with h | h
    · obtain ⟨k, hk, he⟩ := Array.any_eq_true.1 h
      simp only [Bool.and_eq_true, beq_iff_eq] at he
      rw [← he.2]
      exact hp _ (Array.getElem_mem hk) he.1
    · obtain ⟨k, hk, he⟩ := Array.any_eq_true.1 h
      simp only [Bool.and_eq_true] at he
      have hl := hp _ (Array.getElem_mem hk) he.1
      generalize oj.after[k].on = m at he hl
      cases hm : ops[m]? with
      | none => cases n <;> simp [reachX, hm] at he
      | some om =>
        refine reachX_listed hc n m i om hm ?_ he.2
        intro e h1 h2
        refine hc m om hm ?_ e h1 h2
        rcases Nat.lt_or_ge m listed.size with h' | h'
        · simp [h'] at hl ⊢; exact hl
        · simp [Array.getElem?_eq_none h'] at hl
theorem waitsX_spec {i j : Nat} {oj : Oper} {listed : Array Bool} (h : waitsX md ops skip i = true) (hj : ops[j]? = some oj) (hc : ClosedX md ops listed) (hp : ∀ e ∈ oj.after, Region.binds md e = true → listed.getD e.on false = true) (hi : listed.getD i false = false) : skip j = false := by
  simp only [waitsX, List.all_eq_true, List.mem_range] at h
  have h1 := h j (Array.getElem?_eq_some_iff.1 hj).1
  simp only [Bool.or_eq_true, Bool.not_eq_true'] at h1
  rcases h1 with h1 | h1
  · exact h1
  · rw [reachX_listed hc _ _ _ oj hj hp h1] at hi
    cases hi
theorem ClosedX.set {listed : Array Bool} (hc : ClosedX md ops listed) {j : Nat} {oj : Oper} (hj : ops[j]? = some oj) (hp : ∀ e ∈ oj.after, Region.binds md e = true → listed.getD e.on false = true) (hlt : j < listed.size) : ClosedX md ops (listed.setIfInBounds j true) := by
  intro k ok hk hl e he hb
  have h1 : listed.getD e.on false = true := by
    by_cases hjk : j = k
    · subst hjk
      obtain rfl : oj = ok := Option.some.inj (hj.symm.trans hk)
      exact hp e he hb
    · rw [getD_set_ne true hjk] at hl
      exact hc k ok hk hl e he hb
  by_cases hje : j = e.on
  · rw [← hje]
    simp [hlt]
  · rw [getD_set_ne false hje]
    exact h1
theorem anyX_first {i : Nat} {oi : Oper} {v : Value} (hi : ops[i]? = some oi) (hsel : ∀ (j : Nat) (o : Oper) cs b, ops[j]? = some o → o.op ≠ .select cs b)
    (hQ : ∀ c a w, Q (.panic c) (a.put oi.dst v) w → Q (.panic c) a w) (hwait : waitsX md ops skip i = true) :
    ∀ (fuel : Nat) (listed : Array Bool) (a : Act) (w : World), ClosedX md ops listed →
      (∀ j oj, ops[j]? = some oj → j ≠ i → listed.getD j true = false → (∀ e ∈ oj.after, Region.binds md e = true → e.on ≠ i) → oi.apart ops oj = true) →
      i ∈ Region.ready md ops listed → YieldsIf P ops S oi v a → S w →
      anyX P md ops Q S skip fuel (listed.setIfInBounds i true) (a.put oi.dst v) w → anyX P md ops Q S skip (fuel + 1) listed a w := by
  intro fuel
  induction fuel with
  | zero =>
    intro listed a w _ _ hr hy hS H
    refine ⟨fun h => (by rw [h] at hr; cases hr), fun j hj => ?_⟩
    by_cases hji : j = i
    · subst hji; exact hy.wpOp hi hS ⟨fun _ => hS, H⟩
    · have := ready_mono hj hji
      rw [H.1] at this
      cases this
  | succ fuel ih =>
    intro listed a w hcl hfree hr hy hS H
    refine ⟨fun h => (by rw [h] at hr; cases hr), fun j hj => ?_⟩
    by_cases hji : j = i
    · subst hji; exact hy.wpOp hi hS ⟨fun _ => hS, H⟩
    · have h1 := H.2 j (ready_mono hj hji)
      obtain ⟨hjun, oj, hoj, hall⟩ := mem_ready.1 hj
      have hnot : ∀ e ∈ oj.after, Region.binds md e = true → e.on ≠ i := fun e he hb heq => by
        have h1 := hall e he hb
        have h0 := (mem_ready.1 hr).1
        rw [heq] at h1
        rcases Nat.lt_or_ge i listed.size with h' | h'
        · simp [h'] at h0 h1; rw [h0] at h1; cases h1
        · simp [Array.getElem?_eq_none h'] at h1
      have hi0 : listed.getD i false = false := by
        have h0 := (mem_ready.1 hr).1
        rcases Nat.lt_or_ge i listed.size with h' | h'
        · simp [h'] at h0 ⊢; exact h0
        · simp [Array.getElem?_eq_none h']
      have hjlt : j < listed.size := by
        rcases Nat.lt_or_ge j listed.size with h' | h'
        · exact h'
        · simp [Array.getElem?_eq_none h'] at hjun
      have hsk := waitsX_spec hwait hoj hcl hall hi0
      have h2 := wpOp_putIf hoj (hfree j oj hoj hji hjun hnot) (fun cs b => hsel i oi cs b hi) (fun cs b => hsel j oj cs b hoj) hQ hy h1
      have hfree' : ∀ k ok, ops[k]? = some ok → k ≠ i → (listed.setIfInBounds j true).getD k true = false →
          (∀ e ∈ ok.after, Region.binds md e = true → e.on ≠ i) → oi.apart ops ok = true := fun k ok hk hki hun hno => by
        refine hfree k ok hk hki ?_ hno
        by_cases hjk : j = k
        · subst hjk; exact hjun
        · rw [getD_set_ne true hjk] at hun; exact hun
      refine wpOp_mono (fun a' w' h3 => ⟨fun _ => h3.2.1 hsk, ih (listed.setIfInBounds j true) a' w' (hcl.set hoj hall hjlt) hfree' (ready_mono hr (Ne.symm hji)) h3.1 (h3.2.1 hsk) ?_⟩) h2
      rw [Array.setIfInBounds_comm _ _ hji]
      exact h3.2.2
theorem anyX_free {i : Nat} {oi : Oper} {v : Value} (hi : ops[i]? = some oi) (hsel : ∀ (j : Nat) (o : Oper) cs b, ops[j]? = some o → o.op ≠ .select cs b)
    (hQ : ∀ c a w, Q (.panic c) (a.put oi.dst v) w → Q (.panic c) a w) (hsk : skip i = true) :
    ∀ (fuel : Nat) (listed : Array Bool) (a : Act) (w : World),
      (∀ j oj, ops[j]? = some oj → j ≠ i → listed.getD j true = false → (∀ e ∈ oj.after, Region.binds md e = true → e.on ≠ i) → oi.apart ops oj = true) →
      i ∈ Region.ready md ops listed → YieldsIf P ops (fun _ => True) oi v a →
      anyX P md ops Q S skip fuel (listed.setIfInBounds i true) (a.put oi.dst v) w → anyX P md ops Q S skip (fuel + 1) listed a w := by
  intro fuel
  induction fuel with
  | zero =>
    intro listed a w _ hr hy H
    refine ⟨fun h => (by rw [h] at hr; cases hr), fun j hj => ?_⟩
    by_cases hji : j = i
    · subst hji; exact hy.wpOp hi trivial ⟨fun hf => absurd (hsk.symm.trans hf) (by decide), H⟩
    · have := ready_mono hj hji
      rw [H.1] at this
      cases this
  | succ fuel ih =>
    intro listed a w hfree hr hy H
    refine ⟨fun h => (by rw [h] at hr; cases hr), fun j hj => ?_⟩
    by_cases hji : j = i
    · subst hji; exact hy.wpOp hi trivial ⟨fun hf => absurd (hsk.symm.trans hf) (by decide), H⟩
    · have h1 := H.2 j (ready_mono hj hji)
      obtain ⟨hjun, oj, hoj, hall⟩ := mem_ready.1 hj
      have hnot : ∀ e ∈ oj.after, Region.binds md e = true → e.on ≠ i := fun e he hb heq => by
        have h1 := hall e he hb
        have h0 := (mem_ready.1 hr).1
        rw [heq] at h1
        rcases Nat.lt_or_ge i listed.size with h' | h'
        · simp [h'] at h0 h1; rw [h0] at h1; cases h1
        · simp [Array.getElem?_eq_none h'] at h1
      have h2 := wpOp_putIf hoj (hfree j oj hoj hji hjun hnot) (fun cs b => hsel i oi cs b hi) (fun cs b => hsel j oj cs b hoj) hQ hy h1
      have hfree' : ∀ k ok, ops[k]? = some ok → k ≠ i → (listed.setIfInBounds j true).getD k true = false →
          (∀ e ∈ ok.after, Region.binds md e = true → e.on ≠ i) → oi.apart ops ok = true := fun k ok hk hki hun hno => by
        refine hfree k ok hk hki ?_ hno
        by_cases hjk : j = k
        · subst hjk; exact hjun
        · rw [getD_set_ne true hjk] at hun; exact hun
      refine wpOp_mono (fun a' w' h3 => ⟨h3.2.1, ih (listed.setIfInBounds j true) a' w' hfree' (ready_mono hr (Ne.symm hji)) h3.1 ?_⟩) h2
      rw [Array.setIfInBounds_comm _ _ hji]
      exact h3.2.2
/-- Take number i first; it writes the temporary d. -/
theorem anyX_take (i : Nat) (d : Option Tmp) {oi : Oper} {v : Value} {fuel : Nat} {listed : Array Bool} {a : Act} {w : World} (hi : ops[i]? = some oi) (hd : oi.dst = d)
    (hs : Region.noSelect ops = true) (hf : Region.free md ops listed i = true) (hr : (Region.ready md ops listed).contains i = true) (hwait : (waitsX md ops skip i && closedX md ops listed) = true)
    (hQ : ∀ c a w, Q (.panic c) (a.put d v) w → Q (.panic c) a w) (hS : S w) (hy : Region.wanted oi (yielded ops a.tmps) = true ∧ ∀ w, S w → (execOp a.eval oi).run P w = .ok (.value v) w)
    (h : anyX P md ops Q S skip fuel (listed.setIfInBounds i true) (a.put d v) w) : anyX P md ops Q S skip (fuel + 1) listed a w := by
  subst hd
  rw [Bool.and_eq_true] at hwait
  exact anyX_first hi (Region.noSelect_spec hs) hQ hwait.1 fuel listed a w (closedX_spec hwait.2) (Region.free_spec hi hf) (by simpa using hr) (Or.inl hy) hS h
/-- Take number i first, which is skipped and does not look at the world. -/
theorem anyX_pure (i : Nat) (d : Option Tmp) {oi : Oper} {v : Value} {fuel : Nat} {listed : Array Bool} {a : Act} {w : World} (hi : ops[i]? = some oi) (hd : oi.dst = d)
    (hs : Region.noSelect ops = true) (hf : Region.free md ops listed i = true) (hr : (Region.ready md ops listed).contains i = true) (hsk : skip i = true)
    (hQ : ∀ c a w, Q (.panic c) (a.put d v) w → Q (.panic c) a w) (hy : Region.wanted oi (yielded ops a.tmps) = true ∧ ∀ w, True → (execOp a.eval oi).run P w = .ok (.value v) w)
    (h : anyX P md ops Q S skip fuel (listed.setIfInBounds i true) (a.put d v) w) : anyX P md ops Q S skip (fuel + 1) listed a w := by
  subst hd
  exact anyX_free hi (Region.noSelect_spec hs) hQ hsk fuel listed a w (Region.free_spec hi hf) (by simpa using hr) (Or.inl hy) h
/-- Number i alone may come up; behind it S is to be shown. -/
theorem anyX_one (i : Nat) {o : Oper} {fuel : Nat} {listed : Array Bool} {a : Act} {w : World} (ho : ops[i]? = some o) (hr : Region.ready md ops listed = [i])
    (h : ∀ K' : Act → World → Prop, Shut (∀ a w, S w → anyX P md ops Q S skip fuel (listed.setIfInBounds i true) a w → K' a w) → if Region.wanted o (yielded ops a.tmps) = true then Oper.wp P o a w K' Q else K' (a.put o.dst undef) w) :
    anyX P md ops Q S skip (fuel + 1) listed a w := by
  refine ⟨fun h0 => (by rw [hr] at h0; cases h0), fun j hj => ?_⟩
  rw [hr] at hj
  obtain rfl : j = i := by simpa using hj
  exact wpOp_step ho (fun K' hK => h K' (fun a w hS hW => hK a w ⟨fun _ => hS, hW⟩))
/-- Number i alone may come up, and is skipped. -/
theorem anyX_last (i : Nat) {o : Oper} {fuel : Nat} {listed : Array Bool} {a : Act} {w : World} (ho : ops[i]? = some o) (hr : Region.ready md ops listed = [i]) (hsk : skip i = true)
    (h : ∀ K' : Act → World → Prop, Shut (∀ a w, anyX P md ops Q S skip fuel (listed.setIfInBounds i true) a w → K' a w) → if Region.wanted o (yielded ops a.tmps) = true then Oper.wp P o a w K' Q else K' (a.put o.dst undef) w) :
    anyX P md ops Q S skip (fuel + 1) listed a w := by
  refine ⟨fun h0 => (by rw [hr] at h0; cases h0), fun j hj => ?_⟩
  rw [hr] at hj
  obtain rfl : j = i := by simpa using hj
  exact wpOp_step ho (fun K' hK => h K' (fun a w hW => hK a w ⟨fun hf => absurd (hsk.symm.trans hf) (by decide), hW⟩))
theorem anyX_done {listed : Array Bool} {a : Act} {w : World} (hr : Region.ready md ops listed = []) (h : Q .normal a w) : ∀ fuel, anyX P md ops Q S skip fuel listed a w
  | 0 => ⟨hr, h⟩
  | _ + 1 => ⟨fun _ => h, by rw [hr]; simp⟩
theorem region_X (S : World → Prop) (skip : Nat → Bool) {id : Nat} {a : Act} {w : World} (hm : P.follows .mixedOrders = true) (h : anyX P .any ops Q S skip ops.size (Array.replicate ops.size false) a w.drew) : (Code.region id ops true).wp P Q a w :=
  wp_region_any hm (any_of_X _ _ _ _ h)
end
end Go.Proofs.Ytiheeajepnpejaa
