/- The tape of layer 17 in plain words: what it is, and what befalls it. No program in sight. -/
import Derived.RowKit
namespace TapM
/-- A tape: its capacity, its bytes, how many of them are safe, its fuse (-1: none), is its power gone? -/
structure TS where
  cap : Nat
  b : List UInt8
  safe : Nat
  fuse : Int
  lost : Bool
structure TS.Ok (s : TS) : Prop where
  sb : s.safe ≤ s.b.length
  bc : s.b.length ≤ s.cap
  cc : s.cap ≤ 1048576
  f0 : -1 ≤ s.fuse
  f1 : s.fuse ≤ 9223372036854775807
/-- A fuse burns by one. -/
def dec (f : Int) : Int := if 0 < f then f - 1 else f
theorem dec_lo {f : Int} (h : -1 ≤ f) : -1 ≤ dec f := by unfold dec; split <;> omega
theorem dec_hi {f : Int} (h : f ≤ 9223372036854775807) : dec f ≤ 9223372036854775807 := by unfold dec; split <;> omega
def TS.new (cap : Nat) : TS := ⟨cap, [], 0, -1, false⟩
def TS.append (s : TS) (l : List UInt8) : TS × Nat :=
  if s.lost then (s, 9) else if s.cap < s.b.length + l.length then (s, 4) else
  if s.fuse = 0 then ({ s with b := s.b ++ l, lost := true }, 9) else ({ s with b := s.b ++ l, fuse := dec s.fuse }, 0)
def TS.sync (s : TS) : TS × Nat :=
  if s.lost then (s, 9) else if s.fuse = 0 then ({ s with lost := true }, 9) else ({ s with safe := s.b.length, fuse := dec s.fuse }, 0)
def TS.replace (s : TS) (l : List UInt8) : TS × Nat :=
  if s.lost then (s, 9) else if s.cap < l.length then (s, 4) else
  if s.fuse = 0 then ({ s with lost := true }, 9) else ({ s with b := l, safe := l.length, fuse := dec s.fuse }, 0)
def TS.arm (s : TS) (n : Int) : TS × Nat :=
  if s.lost then (s, 9) else if n < 0 then (s, 1) else ({ s with fuse := n }, 0)
/-- How many bytes a Restart leaves. -/
def TS.stay (s : TS) (keep : Int) : Nat := s.safe + (keep % ((s.b.length : Int) - s.safe + 1)).toNat
/-- The first n bytes, the last of them turned if it isn't safe. -/
def TS.left (s : TS) (n : Nat) (y : UInt8) : List UInt8 := if s.safe < n then (s.b.take n).set (n - 1) ((s.b.getD (n - 1) 0) ^^^ y) else s.b.take n
def TS.restart (s : TS) (keep : Int) (y : UInt8) : TS := ⟨s.cap, s.left (s.stay keep) y, s.stay keep, -1, false⟩
/-- What befalls a tape. -/
structure TAct where
  kind : UInt8
  l : List UInt8
  n : Int
  y : UInt8
def TS.act (s : TS) (a : TAct) : TS × Nat :=
  if a.kind = 0 then s.append a.l else if a.kind = 1 then s.sync else if a.kind = 2 then s.replace a.l else if a.kind = 3 then s.arm a.n else (s.restart a.n a.y, 0)

theorem TS.stay_le {s : TS} (h : s.Ok) (keep : Int) : s.safe ≤ s.stay keep ∧ s.stay keep ≤ s.b.length := by
  have h1 := h.sb
  have h2 := Int.emod_lt_of_pos keep (b := (s.b.length : Int) - s.safe + 1) (by omega)
  have h3 := Int.emod_nonneg keep (b := (s.b.length : Int) - s.safe + 1) (by omega)
  unfold TS.stay
  omega
theorem TS.left_length {s : TS} {n : Nat} (hn : n ≤ s.b.length) (y : UInt8) : (s.left n y).length = n := by
  unfold TS.left
  split <;> simp [Nat.min_eq_left hn]
theorem TS.left_zero (s : TS) (n : Nat) : s.left n 0 = s.b.take n := by
  unfold TS.left
  split
  · apply List.ext_getElem (by simp)
    intro i h1 h2
    rw [List.getElem_set]
    split
    · rename_i h
      subst h
      have h3 : n - 1 < s.b.length := by simp at h2; omega
      simp [List.getD, List.getElem?_eq_getElem h3]
    · rfl
  · rfl
theorem TS.left_safe {s : TS} {n : Nat} (hn : s.safe ≤ n) (y : UInt8) : (s.left n y).take s.safe = s.b.take s.safe := by
  unfold TS.left
  split
  · rename_i h
    rw [List.take_set_of_le (by omega), List.take_take, Nat.min_eq_left hn]
  · rw [List.take_take, Nat.min_eq_left hn]
theorem TS.Ok.new {cap : Nat} (h : cap ≤ 1048576) : (TS.new cap).Ok := ⟨Nat.le_refl _, Nat.zero_le _, h, by simp [TS.new], by simp [TS.new]⟩
theorem TS.Ok.append {s : TS} (h : s.Ok) (l : List UInt8) : (s.append l).1.Ok := by
  obtain ⟨h1, h2, h3, h4, h5⟩ := h
  have := dec_lo h4
  have := dec_hi h5
  unfold TS.append
  split
  · exact ⟨h1, h2, h3, h4, h5⟩
  · split
    · exact ⟨h1, h2, h3, h4, h5⟩
    · split <;> exact ⟨by simp; omega, by simp; omega, h3, by assumption, by assumption⟩
theorem TS.Ok.sync {s : TS} (h : s.Ok) : s.sync.1.Ok := by
  obtain ⟨h1, h2, h3, h4, h5⟩ := h
  have := dec_lo h4
  have := dec_hi h5
  unfold TS.sync
  split
  · exact ⟨h1, h2, h3, h4, h5⟩
  · split
    · exact ⟨h1, h2, h3, h4, h5⟩
    · exact ⟨Nat.le_refl _, h2, h3, by assumption, by assumption⟩
theorem TS.Ok.replace {s : TS} (h : s.Ok) (l : List UInt8) : (s.replace l).1.Ok := by
  obtain ⟨h1, h2, h3, h4, h5⟩ := h
  have := dec_lo h4
  have := dec_hi h5
  unfold TS.replace
  split
  · exact ⟨h1, h2, h3, h4, h5⟩
  · split
    · exact ⟨h1, h2, h3, h4, h5⟩
    · split
      · exact ⟨h1, h2, h3, h4, h5⟩
      · exact ⟨Nat.le_refl _, by simp; omega, h3, by assumption, by assumption⟩
theorem TS.Ok.arm {s : TS} (h : s.Ok) {n : Int} (hn : n ≤ 9223372036854775807) : (s.arm n).1.Ok := by
  obtain ⟨h1, h2, h3, h4, h5⟩ := h
  unfold TS.arm
  split
  · exact ⟨h1, h2, h3, h4, h5⟩
  · split
    · exact ⟨h1, h2, h3, h4, h5⟩
    · exact ⟨h1, h2, h3, by simp; omega, hn⟩
theorem TS.Ok.restart {s : TS} (h : s.Ok) (keep : Int) (y : UInt8) : (s.restart keep y).Ok := by
  have hs := TS.stay_le h keep
  have hl := TS.left_length hs.2 y
  have h2 := h.bc
  exact ⟨Nat.le_of_eq hl.symm, by show (s.left (s.stay keep) y).length ≤ s.cap; omega, h.cc, by simp [TS.restart], by simp [TS.restart]⟩
theorem TS.Ok.act {s : TS} (h : s.Ok) {a : TAct} (ha : a.n ≤ 9223372036854775807) : (s.act a).1.Ok := by
  unfold TS.act
  split
  · exact h.append _
  · split
    · exact h.sync
    · split
      · exact h.replace _
      · split
        · exact h.arm ha
        · exact h.restart _ _
theorem TS.append_cap (s : TS) (l : List UInt8) : (s.append l).1.cap = s.cap := by unfold TS.append; repeat (split <;> try rfl)
theorem TS.sync_cap (s : TS) : s.sync.1.cap = s.cap := by unfold TS.sync; repeat (split <;> try rfl)
theorem TS.replace_cap (s : TS) (l : List UInt8) : (s.replace l).1.cap = s.cap := by unfold TS.replace; repeat (split <;> try rfl)
theorem TS.arm_cap (s : TS) (n : Int) : (s.arm n).1.cap = s.cap := by unfold TS.arm; repeat (split <;> try rfl)
theorem ite_of {P : TS × Nat → Prop} {c : Prop} [Decidable c] {a b : TS × Nat} (h1 : c → P a) (h2 : ¬ c → P b) : P (if c then a else b) := by
  split
  · exact h1 (by assumption)
  · exact h2 (by assumption)
def Done0 (r : TS × Nat) : Prop := r.2 = 0 → r.1.lost = false
def Not0 (s : TS) (r : TS × Nat) : Prop := r.2 ≠ 0 → r.1.safe = s.safe ∧ r.1.b.take s.safe = s.b.take s.safe
/-- An act that is done leaves the power on. -/
theorem TS.act_done {s : TS} {a : TAct} : Done0 (s.act a) := by
  unfold TS.act TS.append TS.sync TS.replace TS.arm TS.restart
  repeat' (refine ite_of (P := Done0) (fun _ => ?_) (fun _ => ?_))
  all_goals (intro h; simp_all)
/-- An act that isn't done leaves the safe bytes. -/
theorem TS.act_not {s : TS} (hs : s.Ok) {a : TAct} : Not0 s (s.act a) := by
  have h1 := hs.sb
  have e : ∀ l, (s.b ++ l).take s.safe = s.b.take s.safe := fun l => List.take_append_of_le_length h1
  unfold TS.act TS.append TS.sync TS.replace TS.arm TS.restart
  repeat' (refine ite_of (P := Not0 s) (fun _ => ?_) (fun _ => ?_))
  all_goals (intro h; simp_all)
/-- A fuse of n, of which d are burnt, behind k acts. -/
structure Fz (s : TS) (n d k : Nat) : Prop where
  ok : s.Ok
  cap : s.cap = 1048576
  fuse : s.fuse = (n : Int) - d
  le : d ≤ n
  lost : s.lost = true → d = n
  len : s.b.length ≤ 300 * k
theorem kind3 {k : UInt8} (h : k.toNat < 3) : k = 0 ∨ k = 1 ∨ k = 2 := by
  have e : ∀ m : UInt8, k.toNat = m.toNat → k = m := fun m h => UInt8.toNat_inj.1 h
  rcases (show k.toNat = 0 ∨ k.toNat = 1 ∨ k.toNat = 2 by omega) with h | h | h
  · exact .inl (e 0 h)
  · exact .inr (.inl (e 1 h))
  · exact .inr (.inr (e 2 h))
theorem Fz.start {n : Nat} (h : (n : Int) ≤ 9223372036854775807) : ((TS.new 1048576).arm n).2 = 0 ∧ Fz ((TS.new 1048576).arm n).1 n 0 0 := by
  have e : (TS.new 1048576).arm n = ({ TS.new 1048576 with fuse := (n : Int) }, 0) := by
    unfold TS.arm
    rw [if_neg (by simp [TS.new]), if_neg (by omega)]
  have h1 := TS.Ok.arm (TS.Ok.new (cap := 1048576) (Nat.le_refl _)) h
  rw [e] at h1 ⊢
  exact ⟨rfl, h1, rfl, by simp, by omega, (by simp [TS.new]), (by simp [TS.new])⟩
theorem Fz.yes {s : TS} {n d k : Nat} (h : Fz s n d k) (hd : d < n) (hk : k ≤ 60) {a : TAct} (ha : a.l.length ≤ 300) (hn : a.n ≤ 9223372036854775807) (hkd : a.kind.toNat < 3) :
    (s.act a).2 = 0 ∧ Fz (s.act a).1 n (d + 1) (k + 1) := by
  have hl : s.lost = false := by
    cases hs : s.lost with
    | false => rfl
    | true => have := h.lost hs; omega
  have hf := h.fuse
  have hc := h.cap
  have hln := h.len
  have h0 : ¬ s.fuse = 0 := by omega
  have hdc : dec s.fuse = (n : Int) - (d + 1 : Nat) := by unfold dec; rw [if_pos (by omega)]; omega
  have hok := h.ok.act hn
  rcases kind3 hkd with e | e | e
  · have e2 : s.act a = ({ s with b := s.b ++ a.l, fuse := dec s.fuse }, 0) := by
      unfold TS.act TS.append
      rw [if_pos e, hl, if_neg (by simp), if_neg (by omega), if_neg h0, ← hl]
    rw [e2] at hok ⊢
    exact ⟨rfl, hok, hc, hdc, by omega, (by simp [hl]), (by show (s.b ++ a.l).length ≤ _; rw [List.length_append]; omega)⟩
  · have e2 : s.act a = ({ s with safe := s.b.length, fuse := dec s.fuse }, 0) := by
      unfold TS.act TS.sync
      rw [if_neg (by rw [e]; decide), if_pos e, hl, if_neg (by simp), if_neg h0, ← hl]
    rw [e2] at hok ⊢
    exact ⟨rfl, hok, hc, hdc, by omega, (by simp [hl]), (by show s.b.length ≤ _; omega)⟩
  · have e2 : s.act a = ({ s with b := a.l, safe := a.l.length, fuse := dec s.fuse }, 0) := by
      unfold TS.act TS.replace
      rw [if_neg (by rw [e]; decide), if_neg (by rw [e]; decide), if_pos e, hl, if_neg (by simp), if_neg (by omega), if_neg h0, ← hl]
    rw [e2] at hok ⊢
    exact ⟨rfl, hok, hc, hdc, by omega, (by simp [hl]), (by show a.l.length ≤ _; omega)⟩
theorem Fz.no {s : TS} {n d k : Nat} (h : Fz s n d k) (hd : ¬ d < n) (hk : k ≤ 60) {a : TAct} (ha : a.l.length ≤ 300) (hn : a.n ≤ 9223372036854775807) (hkd : a.kind.toNat < 3) :
    (s.act a).2 = 9 ∧ (s.act a).1.lost = true ∧ Fz (s.act a).1 n d (k + 1) := by
  have hle := h.le
  have hf := h.fuse
  have hc := h.cap
  have hln := h.len
  have h0 : s.fuse = 0 := by omega
  have hok := h.ok.act hn
  cases hl : s.lost with
  | true =>
    have e2 : s.act a = (s, 9) := by
      unfold TS.act TS.append TS.sync TS.replace
      rcases kind3 hkd with e | e | e <;> simp [e, hl]
    rw [e2] at hok ⊢
    exact ⟨rfl, hl, hok, hc, hf, hle, (fun _ => by omega), (by show s.b.length ≤ _; omega)⟩
  | false =>
    rcases kind3 hkd with e | e | e
    · have e2 : s.act a = ({ s with b := s.b ++ a.l, lost := true }, 9) := by
        unfold TS.act TS.append
        rw [if_pos e, hl, if_neg (by simp), if_neg (by omega), if_pos h0]
      rw [e2] at hok ⊢
      exact ⟨rfl, rfl, hok, hc, hf, hle, (fun _ => by omega), (by show (s.b ++ a.l).length ≤ _; rw [List.length_append]; omega)⟩
    · have e2 : s.act a = ({ s with lost := true }, 9) := by
        unfold TS.act TS.sync
        rw [if_neg (by rw [e]; decide), if_pos e, hl, if_neg (by simp), if_pos h0]
      rw [e2] at hok ⊢
      exact ⟨rfl, rfl, hok, hc, hf, hle, (fun _ => by omega), (by show s.b.length ≤ _; omega)⟩
    · have e2 : s.act a = ({ s with lost := true }, 9) := by
        unfold TS.act TS.replace
        rw [if_neg (by rw [e]; decide), if_neg (by rw [e]; decide), if_pos e, hl, if_neg (by simp), if_neg (by omega), if_pos h0]
      rw [e2] at hok ⊢
      exact ⟨rfl, rfl, hok, hc, hf, hle, (fun _ => by omega), (by show s.b.length ≤ _; omega)⟩
end TapM
