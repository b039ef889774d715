/- The journal of layer 18 in plain words: opening, writing, renewing. No program in sight. -/
import Derived.Test.YtiheeajepnpejaaTapMath
import Derived.Test.YtiheeajepnpejaaFrameMath
namespace JouM
open TapM Go.Proofs.Ytiheeajepnpejaa.FrameM
/-- The records that bytes begin with. -/
noncomputable def recs (b : List UInt8) : List (List UInt8) := Classical.choose (parse_exists b.length b (Nat.le_refl _))
theorem recs_spec (b : List UInt8) : ∃ r, Parse b (recs b) r := Classical.choose_spec (parse_exists b.length b (Nat.le_refl _))
theorem recs_eq {b r : List UInt8} {xs : List (List UInt8)} (h : Parse b xs r) : recs b = xs := by
  obtain ⟨r', h'⟩ := recs_spec b
  exact (Parse.unique h' h).1
/-- What is opened: the base and the records, or the base that is handed in. -/
noncomputable def base1 (b base : List UInt8) : List (List UInt8) := if recs b = [] then [base] else recs b
noncomputable def opened (s : TS) (base : List UInt8) : TS × List (List UInt8) × Nat :=
  if 60000 < base.length then (s, [], 3) else if s.lost then (s, [], 9) else
  if (framed (recs s.b)).length = 0 ∨ (framed (recs s.b)).length < s.b.length then
    if (s.replace (framed (base1 s.b base))).2 = 0 then ((s.replace (framed (base1 s.b base))).1, base1 s.b base, 0)
    else ((s.replace (framed (base1 s.b base))).1, [], (s.replace (framed (base1 s.b base))).2)
  else (s, base1 s.b base, 0)
def write (s : TS) (n : Nat) (l : List UInt8) : (TS × Nat) × Nat :=
  if 60000 < l.length then ((s, n), 3) else
  if (s.append (frame l)).2 ≠ 0 then (((s.append (frame l)).1, n), (s.append (frame l)).2) else
  if (s.append (frame l)).1.sync.2 ≠ 0 then (((s.append (frame l)).1.sync.1, n), (s.append (frame l)).1.sync.2) else (((s.append (frame l)).1.sync.1, n + 1), 0)
def renew (s : TS) (n : Nat) (l : List UInt8) : (TS × Nat) × Nat :=
  if 60000 < l.length then ((s, n), 3) else (((s.replace (frame l)).1, if (s.replace (frame l)).2 = 0 then 0 else n), (s.replace (frame l)).2)
theorem framed_zero {xs : List (List UInt8)} : (framed xs).length = 0 ↔ xs = [] := by
  constructor
  · intro h
    have := framed_length_le xs
    exact List.eq_nil_of_length_eq_zero (by omega)
  · rintro rfl
    rfl
theorem recs_short {b : List UInt8} {x : List UInt8} (h : x ∈ recs b) : x.length ≤ 60000 := by
  obtain ⟨r, hp⟩ := recs_spec b
  exact hp.1 x h
theorem recs_fit (b : List UInt8) : (framed (recs b)).length ≤ b.length := by
  obtain ⟨r, hp⟩ := recs_spec b
  have := congrArg List.length hp.2.1
  rw [List.length_append] at this
  omega
theorem base1_short {b base x : List UInt8} (hb : base.length ≤ 60000) (h : x ∈ base1 b base) : x.length ≤ 60000 := by
  unfold base1 at h
  split at h
  · simp at h
    rw [h]
    exact hb
  · exact recs_short h
theorem base1_ne (b base : List UInt8) : base1 b base ≠ [] := by
  unfold base1
  split
  · simp
  · assumption
end JouM
