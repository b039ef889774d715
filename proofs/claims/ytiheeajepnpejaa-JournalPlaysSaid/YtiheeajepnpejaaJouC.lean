/- The law JournalCrashes of layer 18, walked: it answers true, wherever the power goes. -/
import Derived.Test.YtiheeajepnpejaaJouP
namespace Go.Proofs.Ytiheeajepnpejaa
open Go.RowKit TapM FrameM JouM
theorem Rws.drewN {w : World} {A : Option Addr} {n : Nat} {L : List (List UInt8)} (h : Rws w A n L) (k : Nat) : Rws (w.drewN k) A n L := h
/-- The first k records of a slice of records. -/
theorem Rws.take {w : World} {A : Option Addr} {n : Nat} {L : List (List UInt8)} (h : Rws w A n L) {k : Nat} (hk : k ≤ n) : Rws w A k (L.take k) := by
  obtain ⟨hl, hA⟩ := h
  refine ⟨by rw [List.length_take]; omega, ?_⟩
  by_cases h0 : k = 0
  · exact .inl h0
  · obtain ⟨b, o, hA, hc⟩ := hA.resolve_left (by omega)
    refine .inr ⟨b, o, hA, fun j hj => ?_⟩
    have hj' : j < L.length := by rw [List.length_take] at hj; omega
    obtain ⟨A', c', h1, h2, h3⟩ := hc j hj'
    rw [List.getElem_take]
    exact ⟨A', c', h1, h2, h3⟩
/-- What is told of the tape when its power is back: the base and the first k records, or one more. -/
def Keeps18 (s : TS) (base : List UInt8) (L : List (List UInt8)) (k : Nat) : Prop :=
  s.Ok ∧ s.b.length ≤ 1000000 ∧ ∀ keep y base', base'.length ≤ 60000 → ∃ s2 ys, opened (s.restart keep y) base' = (s2, base :: ys, 0) ∧ (ys = L.take k ∨ (k < L.length ∧ ys = L.take (k + 1)))
theorem framed_small (xs : List (List UInt8)) (h : ∀ x ∈ xs, x.length ≤ 300) : (framed xs).length ≤ 308 * xs.length := by
  induction xs with
  | nil => simp [framed]
  | cons x L ih =>
    have h1 := h x (by simp)
    have h2 := ih fun y hy => h y (by simp [hy])
    rw [framed_cons, List.length_append, frame_length, List.length_cons]
    omega
section
variable {base : List UInt8} {L : List (List UInt8)} {k : Nat}
theorem small_cons (hb : base.length ≤ 300) (hx : ∀ x ∈ L.take k, x.length ≤ 300) : ∀ x ∈ base :: L.take k, x.length ≤ 300 := by
  intro x h
  rcases List.mem_cons.1 h with rfl | h
  · exact hb
  · exact hx x h
theorem keeps_jf {f : Int} (hb : base.length ≤ 300) (hx : ∀ x ∈ L.take k, x.length ≤ 300) (hk : k ≤ 30) (hf0 : -1 ≤ f) (hf1 : f ≤ 9223372036854775807) : Keeps18 (jf 1048576 (base :: L.take k) f) base L k := by
  have h3 := small_cons hb hx
  have hs := framed_small _ h3
  have hl : (base :: L.take k).length ≤ 31 := by simp; omega
  refine ⟨jf_ok (by omega) (by omega) hf0 hf1, by show (framed _).length ≤ _; omega, fun keep y base' hb' => ?_⟩
  obtain ⟨s2, h⟩ := opened_jf (cap := 1048576) (f := f) (keep := keep) (y := y) hb' (fun x hx => Nat.le_trans (h3 x hx) (by omega)) (List.cons_ne_nil _ _) (by omega)
  exact ⟨s2, _, h, .inl rfl⟩
theorem keeps_dead (hb : base.length ≤ 300) (hx : ∀ x ∈ L.take k, x.length ≤ 300) (hk : k ≤ 30) (hkL : k < L.length) (hl : L[k].length ≤ 300) : Keeps18 (dead 1048576 (base :: L.take k) L[k]) base L k := by
  have h3 := small_cons hb hx
  have hs := framed_small _ h3
  have hln : (base :: L.take k).length ≤ 31 := by simp; omega
  have hdl : (dead 1048576 (base :: L.take k) L[k]).b.length = (framed (base :: L.take k)).length + (L[k].length + 8) := by show (framed _ ++ frame _).length = _; rw [List.length_append, frame_length]
  refine ⟨⟨?_, ?_, by show 1048576 ≤ 1048576; omega, by simp [dead], by simp [dead]⟩, by omega, fun keep y base' hb' => ?_⟩
  · show (framed _).length ≤ (framed _ ++ frame _).length
    rw [List.length_append]; omega
  · show (dead 1048576 (base :: L.take k) L[k]).b.length ≤ 1048576
    omega
  · obtain ⟨s2, ys, h, h'⟩ := opened_dead (cap := 1048576) (keep := keep) (y := y) hb' (fun x hx => Nat.le_trans (h3 x hx) (by omega)) (by omega : L[k].length ≤ 60000) (List.cons_ne_nil _ _) (by omega)
    rcases h' with rfl | rfl
    · exact ⟨s2, _, h, .inl rfl⟩
    · refine ⟨s2, L.take k ++ [L[k]], h, .inr ⟨hkL, ?_⟩⟩
      rw [List.take_succ_eq_append_getElem hkL]
end
theorem arm_jf {cap : Nat} {xs : List (List UInt8)} {f n : Int} (hn : 0 ≤ n) : (jf cap xs f).arm n = (jf cap xs n, 0) := by
  unfold TS.arm
  rw [if_neg (by simp [jf]), if_neg (by omega)]
  rfl
theorem dec2 {f : Int} (h : 2 ≤ f) : dec (dec f) = f - 2 := by
  unfold dec
  rw [if_pos (show 0 < f by omega), if_pos (by omega)]
  omega
end Go.Proofs.Ytiheeajepnpejaa
