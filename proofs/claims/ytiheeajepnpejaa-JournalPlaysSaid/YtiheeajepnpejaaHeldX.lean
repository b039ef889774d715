/- A region that draws its order: a load may be taken first where whoever writes its cell waits for it. No program in sight. -/
import Derived.Deep.RegionHeld
namespace Go.Proofs.Ytiheeajepnpejaa
open Go
section
variable {P : Program} {ops : Array Oper} {Q : Exit → Act → World → Prop} {md : Region.Mode} {S : World → Prop} {skip : Nat → Bool}
/-- What a region comes to, whichever order is drawn from here on: S is owed behind each operation but those of skip. -/
def anyX (P : Program) (md : Region.Mode) (ops : Array Oper) (Q : Exit → Act → World → Prop) (S : World → Prop) (skip : Nat → Bool) (fuel : Nat) (listed : Array Bool) (a : Act) (w : World) : Prop :=
  match fuel with
  | 0 => Region.ready md ops listed = [] ∧ Q .normal a w
  | n + 1 => (Region.ready md ops listed = [] → Q .normal a w) ∧
      ∀ j ∈ Region.ready md ops listed, wpOp P ops Q j (fun b v => (skip j = false → S v) ∧ anyX P md ops Q S skip n (listed.setIfInBounds j true) b v) a w
theorem any_of_X (fuel : Nat) : ∀ (listed : Array Bool) (a : Act) (w : World), anyX P md ops Q S skip fuel listed a w → wpAny P md ops Q fuel listed a w := by
  induction fuel with
  | zero => exact fun _ _ _ h => h
  | succ n ih => exact fun listed a w h => ⟨h.1, fun j hj => wpOp_mono (fun b v hv => ih _ b v hv.2) (h.2 j hj)⟩
theorem getD_true {l : Array Bool} {k : Nat} (h : l.getD k true = false) : l.getD k false = false ∧ k < l.size := by
  rcases Nat.lt_or_ge k l.size with hk | hk
  · simp [hk] at h ⊢
    exact h
  · simp [Array.getElem?_eq_none hk] at h
theorem getD_false {l : Array Bool} {k : Nat} (h : l.getD k false = true) : l.getD k true = true := by
  rcases Nat.lt_or_ge k l.size with hk | hk
  · simp [hk] at h ⊢
    exact h
  · simp [Array.getElem?_eq_none hk] at h
/-- Behind all that it waits for. -/
def Freed (md : Region.Mode) (l : Array Bool) (o : Oper) : Prop := ∀ e ∈ o.after, Region.binds md e = true → l.getD e.on false = true
/-- The one law: an operation i that yields v in each world of T may be had first. G goes with what has come up; T is had behind each other one that comes up before i. -/
theorem had_first {i : Nat} {oi : Oper} {v : Value} {T : World → Prop} {G : Array Bool → Prop} (hi : ops[i]? = some oi) (hs : Region.noSelect ops = true)
    (hQ : ∀ c a w, Q (.panic c) (a.put oi.dst v) w → Q (.panic c) a w)
    (step : ∀ l j oj, G l → l.getD i true = false → ops[j]? = some oj → j ≠ i → l.getD j true = false → Freed md l oj → oi.apart ops oj = true ∧ G (l.setIfInBounds j true) ∧ ∀ w, (skip j = false → S w) → T w)
    (last : ∀ w, T w → skip i = false → S w) (n : Nat) :
    ∀ (l : Array Bool) (a : Act) (w : World), G l → i ∈ Region.ready md ops l → YieldsIf P ops T oi v a → T w → anyX P md ops Q S skip n (l.setIfInBounds i true) (a.put oi.dst v) w → anyX P md ops Q S skip (n + 1) l a w := by
  induction n with
  | zero =>
    refine fun l a w _ hr hy ht H => ⟨fun h0 => absurd hr (by simp [h0]), fun j hj => ?_⟩
    by_cases e : j = i
    · rw [e]
      exact hy.wpOp hi ht ⟨last w ht, H⟩
    · exact absurd (ready_mono hj e) (by simp [H.1])
  | succ n ih =>
    refine fun l a w hG hr hy ht H => ⟨fun h0 => absurd hr (by simp [h0]), fun j hj => ?_⟩
    by_cases e : j = i
    · rw [e]
      exact hy.wpOp hi ht ⟨last w ht, H⟩
    · obtain ⟨hl, oj, hoj, hfr⟩ := mem_ready.1 hj
      obtain ⟨hap, hG', hT⟩ := step l j oj hG (mem_ready.1 hr).1 hoj e hl hfr
      refine wpOp_mono ?_ (wpOp_putIf hoj hap (fun cs b => Region.noSelect_spec hs i oi cs b hi) (fun cs b => Region.noSelect_spec hs j oj cs b hoj) hQ hy (H.2 j (ready_mono hj e)))
      rintro b u ⟨hb, hu, hX⟩
      exact ⟨hu, ih _ b u hG' (ready_mono hr (Ne.symm e)) hb (hT u hu) (by rw [Array.setIfInBounds_comm _ _ e]; exact hX)⟩
/-- Number j waits for number i, at most n steps on. -/
def reachX (md : Region.Mode) (ops : Array Oper) : Nat → Nat → Nat → Bool
  | 0, _, _ => false
  | n + 1, j, i => match ops[j]? with
    | some o => o.after.any (fun e => Region.binds md e && e.on == i) || o.after.any (fun e => Region.binds md e && reachX md ops n e.on i)
    | none => false
/-- Who is skipped waits for number i. -/
def waitsX (md : Region.Mode) (ops : Array Oper) (skip : Nat → Bool) (i : Nat) : Bool := (List.range ops.size).all fun j => !skip j || reachX md ops ops.size j i
/-- Who has come up has come up behind those that it waits for. -/
def ClosedX (md : Region.Mode) (ops : Array Oper) (l : Array Bool) : Prop := ∀ k o, ops[k]? = some o → l.getD k true = true → Freed md l o
def closedX (md : Region.Mode) (ops : Array Oper) (l : Array Bool) : Bool :=
  (List.range ops.size).all fun k => !l.getD k true || (match ops[k]? with
    | some o => o.after.all fun e => !Region.binds md e || l.getD e.on false
    | none => true)
theorem closedX_spec {l : Array Bool} (h : closedX md ops l = true) : ClosedX md ops l := by
  intro k o hk hl e he hb
  simp only [closedX, List.all_eq_true, List.mem_range] at h
  have h1 := h k (Array.getElem?_eq_some_iff.1 hk).1
  simp only [hk, hl, Bool.not_true, Bool.false_or] at h1
  obtain ⟨n, hn, rfl⟩ := Array.getElem_of_mem he
  simpa [hb] using Array.all_eq_true.1 h1 n hn
theorem reachX_listed {l : Array Bool} (hc : ClosedX md ops l) : ∀ (n j i : Nat) (o : Oper), ops[j]? = some o → Freed md l o → reachX md ops n j i = true → l.getD i false = true
  | 0, _, _, _, _, _, h => by simp [reachX] at h
  | n + 1, j, i, o, hj, hp, h => by
    simp only [reachX, hj, Bool.or_eq_true] at h
    rcases h with h | h
    · obtain ⟨k, hk, he⟩ := Array.any_eq_true.1 h
      simp only [Bool.and_eq_true, beq_iff_eq] at he
      rw [← he.2]
      exact hp _ (Array.getElem_mem hk) he.1
    · obtain ⟨k, hk, he⟩ := Array.any_eq_true.1 h
      simp only [Bool.and_eq_true] at he
      have hl := hp _ (Array.getElem_mem hk) he.1
      generalize o.after[k].on = m at he hl
      cases hm : ops[m]? with
      | none => cases n <;> simp [reachX, hm] at he
      | some om => exact reachX_listed hc n m i om hm (hc m om hm (getD_false hl)) he.2
theorem ClosedX.set {l : Array Bool} (hc : ClosedX md ops l) {j : Nat} {oj : Oper} (hj : ops[j]? = some oj) (hp : Freed md l oj) (hlt : j < l.size) : ClosedX md ops (l.setIfInBounds j true) := by
  intro k o hk hl e he hb
  have h1 : l.getD e.on false = true := by
    by_cases hjk : j = k
    · subst hjk
      obtain rfl : oj = o := Option.some.inj (hj.symm.trans hk)
      exact hp e he hb
    · rw [getD_set_ne true hjk] at hl
      exact hc k o hk hl e he hb
  by_cases hje : j = e.on
  · rw [← hje]
    simp [hlt]
  · rw [getD_set_ne false hje]
    exact h1
theorem less_set {l l0 : Array Bool} (h : ∀ k, l.getD k true = false → l0.getD k true = false) (j : Nat) : ∀ k, (l.setIfInBounds j true).getD k true = false → l0.getD k true = false := by
  intro k hk
  by_cases e : j = k
  · subst e
    rcases Nat.lt_or_ge j l.size with hj | hj
    · simp [hj] at hk
    · exact h j (by rw [Array.setIfInBounds_eq_of_size_le hj] at hk; exact hk)
  · rw [getD_set_ne true e] at hk
    exact h k hk
/-- Take number i first, which may read what S tells; it writes the temporary d. -/
theorem anyX_take (i : Nat) (d : Option Tmp) {oi : Oper} {v : Value} {fuel : Nat} {listed : Array Bool} {a : Act} {w : World} (hi : ops[i]? = some oi) (hd : oi.dst = d)
    (hs : Region.noSelect ops = true) (hf : Region.free md ops listed i = true) (hr : (Region.ready md ops listed).contains i = true) (hwait : (waitsX md ops skip i && closedX md ops listed) = true)
    (hQ : ∀ c a w, Q (.panic c) (a.put d v) w → Q (.panic c) a w) (hS : S w) (hy : Region.wanted oi (yielded ops a.tmps) = true ∧ ∀ w, S w → (execOp a.eval oi).run P w = .ok (.value v) w)
    (h : anyX P md ops Q S skip fuel (listed.setIfInBounds i true) (a.put d v) w) : anyX P md ops Q S skip (fuel + 1) listed a w := by
  subst hd
  rw [Bool.and_eq_true] at hwait
  refine had_first (T := S) (G := fun l => ClosedX md ops l ∧ ∀ k, l.getD k true = false → listed.getD k true = false) hi hs hQ ?_ (fun _ hw _ => hw) fuel listed a w ⟨closedX_spec hwait.2, fun _ hk => hk⟩ (by simpa using hr) (Or.inl hy) hS h
  rintro l j oj ⟨hc, hm⟩ hli hoj hji hlj hfr
  have hi0 := (getD_true hli).1
  refine ⟨Region.free_spec hi hf j oj hoj hji (hm j hlj) fun e he hb he2 => ?_, ⟨hc.set hoj hfr (getD_true hlj).2, less_set hm j⟩, fun u hu => hu ?_⟩
  · have := hfr e he hb
    rw [he2, hi0] at this
    cases this
  · have h1 := hwait.1
    simp only [waitsX, List.all_eq_true, List.mem_range] at h1
    have h2 := h1 j (Array.getElem?_eq_some_iff.1 hoj).1
    simp only [Bool.or_eq_true, Bool.not_eq_true'] at h2
    refine h2.resolve_right fun h3 => ?_
    rw [reachX_listed hc _ _ _ oj hoj hfr h3] at hi0
    cases hi0
/-- Take number i first, which is skipped and does not look at the world. -/
theorem anyX_pure (i : Nat) (d : Option Tmp) {oi : Oper} {v : Value} {fuel : Nat} {listed : Array Bool} {a : Act} {w : World} (hi : ops[i]? = some oi) (hd : oi.dst = d)
    (hs : Region.noSelect ops = true) (hf : Region.free md ops listed i = true) (hr : (Region.ready md ops listed).contains i = true) (hsk : skip i = true)
    (hQ : ∀ c a w, Q (.panic c) (a.put d v) w → Q (.panic c) a w) (hy : Region.wanted oi (yielded ops a.tmps) = true ∧ ∀ w, True → (execOp a.eval oi).run P w = .ok (.value v) w)
    (h : anyX P md ops Q S skip fuel (listed.setIfInBounds i true) (a.put d v) w) : anyX P md ops Q S skip (fuel + 1) listed a w := by
  subst hd
  refine had_first (T := fun _ => True) (G := fun l => ∀ k, l.getD k true = false → listed.getD k true = false) hi hs hQ ?_ (fun _ _ hf => absurd (hsk.symm.trans hf) (by decide)) fuel listed a w (fun _ hk => hk) (by simpa using hr) (Or.inl hy) trivial h
  intro l j oj hm hli hoj hji hlj hfr
  refine ⟨Region.free_spec hi hf j oj hoj hji (hm j hlj) fun e he hb he2 => ?_, less_set hm j, fun _ _ => trivial⟩
  have := hfr e he hb
  rw [he2, (getD_true hli).1] at this
  cases this
/-- Number i alone may come up; behind it S is to be shown. -/
theorem anyX_one (i : Nat) {o : Oper} {fuel : Nat} {listed : Array Bool} {a : Act} {w : World} (ho : ops[i]? = some o) (hr : Region.ready md ops listed = [i])
    (h : ∀ K' : Act → World → Prop, Shut (∀ a w, S w → anyX P md ops Q S skip fuel (listed.setIfInBounds i true) a w → K' a w) → if Region.wanted o (yielded ops a.tmps) = true then Oper.wp P o a w K' Q else K' (a.put o.dst undef) w) :
    anyX P md ops Q S skip (fuel + 1) listed a w := by
  refine ⟨fun h0 => (by rw [hr] at h0; cases h0), fun j hj => ?_⟩
  obtain rfl : j = i := by rw [hr] at hj; simpa using hj
  exact wpOp_step ho fun K' hK => h K' fun b u hS hX => hK b u ⟨fun _ => hS, hX⟩
/-- Number i alone may come up, and is skipped. -/
theorem anyX_last (i : Nat) {o : Oper} {fuel : Nat} {listed : Array Bool} {a : Act} {w : World} (ho : ops[i]? = some o) (hr : Region.ready md ops listed = [i]) (hsk : skip i = true)
    (h : ∀ K' : Act → World → Prop, Shut (∀ a w, anyX P md ops Q S skip fuel (listed.setIfInBounds i true) a w → K' a w) → if Region.wanted o (yielded ops a.tmps) = true then Oper.wp P o a w K' Q else K' (a.put o.dst undef) w) :
    anyX P md ops Q S skip (fuel + 1) listed a w := by
  refine ⟨fun h0 => (by rw [hr] at h0; cases h0), fun j hj => ?_⟩
  obtain rfl : j = i := by rw [hr] at hj; simpa using hj
  exact wpOp_step ho fun K' hK => h K' fun b u hX => hK b u ⟨fun hf => absurd (hsk.symm.trans hf) (by decide), hX⟩
theorem anyX_done {listed : Array Bool} {a : Act} {w : World} (hr : Region.ready md ops listed = []) (h : Q .normal a w) (fuel : Nat) : anyX P md ops Q S skip fuel listed a w := by
  cases fuel with
  | zero => exact ⟨hr, h⟩
  | succ n => exact ⟨fun _ => h, by simp [hr]⟩
theorem region_X (S : World → Prop) (skip : Nat → Bool) {id : Nat} {a : Act} {w : World} (hm : P.follows .mixedOrders = true) (h : anyX P .any ops Q S skip ops.size (Array.replicate ops.size false) a w.drew) : (Code.region id ops true).wp P Q a w :=
  wp_region_any hm (any_of_X _ _ _ _ h)
end
end Go.Proofs.Ytiheeajepnpejaa
