/- Plain laws on what is opened: the records are few, the tape stays well-formed, a refusal leaves it. No program in sight. -/
import Derived.Test.YtiheeajepnpejaaJouMath
namespace JouM
open TapM Go.Proofs.Ytiheeajepnpejaa.FrameM
theorem replace_cap (s : TS) (l : List UInt8) : (s.replace l).1.cap = s.cap := by
  unfold TS.replace
  split
  · rfl
  · split
    · rfl
    · split <;> rfl
theorem replace_fits (s : TS) (l : List UInt8) (h : (s.replace l).2 = 0) : l.length ≤ s.cap := by
  unfold TS.replace at h
  split at h
  · simp at h
  · split at h
    · simp at h
    · omega
theorem replace_err (s : TS) (l : List UInt8) (hf : s.fuse ≠ 0) (h : (s.replace l).2 ≠ 0) : (s.replace l).1 = s := by
  unfold TS.replace at h ⊢
  split
  · rfl
  · split
    · rfl
    · rename_i h1 h2
      rw [if_neg h1, if_neg h2, if_neg hf] at h
      exact absurd rfl h
theorem opened_ok {s : TS} (h : s.Ok) (base : List UInt8) : (opened s base).1.Ok ∧ (opened s base).1.cap = s.cap := by
  unfold opened
  split
  · exact ⟨h, rfl⟩
  · split
    · exact ⟨h, rfl⟩
    · split
      · split
        · exact ⟨h.replace _, replace_cap _ _⟩
        · exact ⟨h.replace _, replace_cap _ _⟩
      · exact ⟨h, rfl⟩
theorem base1_few {s : TS} (h : s.Ok) (base : List UInt8) : (base1 s.b base).length ≤ 1048577 := by
  have h1 := recs_fit s.b
  have h2 := framed_length_le (recs s.b)
  have h3 := h.bc
  have h4 := h.cc
  unfold base1
  split
  · simp
  · omega
theorem opened_recs {s : TS} (h : s.Ok) (base : List UInt8) (he : (opened s base).2.2 = 0) : ∃ x xs, (opened s base).2.1 = x :: xs ∧ xs.length ≤ 1048577 := by
  have key : (opened s base).2.1 = base1 s.b base := by
    unfold opened at he ⊢
    split
    · rename_i h1; rw [if_pos h1] at he; simp at he
    · rename_i h1
      rw [if_neg h1] at he
      split
      · rename_i h2; rw [if_pos h2] at he; simp at he
      · rename_i h2
        rw [if_neg h2] at he
        split
        · rename_i h3
          rw [if_pos h3] at he
          split
          · rfl
          · rename_i h4; rw [if_neg h4] at he; exact absurd he h4
        · rfl
  have hf := base1_few h base
  have hne := base1_ne s.b base
  rw [key]
  cases hb : base1 s.b base with
  | nil => exact absurd hb hne
  | cons x xs => exact ⟨x, xs, rfl, by rw [hb] at hf; simp at hf; omega⟩
theorem opened_refuse (s : TS) (base : List UInt8) (hf : s.fuse ≠ 0) (he : (opened s base).2.2 ≠ 0) : (opened s base).1 = s := by
  unfold opened at he ⊢
  split
  · rfl
  · rename_i h1
    rw [if_neg h1] at he
    split
    · rfl
    · rename_i h2
      rw [if_neg h2] at he
      split
      · rename_i h3
        rw [if_pos h3] at he
        split
        · rename_i h4; rw [if_pos h4] at he; exact absurd rfl he
        · rename_i h4; exact replace_err s _ hf h4
      · rfl
theorem append_cap (s : TS) (l : List UInt8) : (s.append l).1.cap = s.cap := by
  unfold TS.append
  split
  · rfl
  · split
    · rfl
    · split <;> rfl
theorem sync_cap (s : TS) : s.sync.1.cap = s.cap := by
  unfold TS.sync
  split
  · rfl
  · split <;> rfl
theorem arm_cap (s : TS) (n : Int) : (s.arm n).1.cap = s.cap := by
  unfold TS.arm
  split
  · rfl
  · split <;> rfl
theorem write_bounds (s : TS) (n : Nat) (l : List UInt8) : (write s n l).1.2 ≤ n + 1 ∧ (write s n l).1.1.cap = s.cap := by
  unfold write
  split
  · exact ⟨by simp, rfl⟩
  · split
    · exact ⟨by simp, append_cap _ _⟩
    · split
      · exact ⟨by simp, (sync_cap _).trans (append_cap _ _)⟩
      · exact ⟨by simp, (sync_cap _).trans (append_cap _ _)⟩
theorem renew_bounds (s : TS) (n : Nat) (l : List UInt8) : (renew s n l).1.2 ≤ n + 1 ∧ (renew s n l).1.1.cap = s.cap := by
  unfold renew
  split
  · exact ⟨by simp, rfl⟩
  · exact ⟨by show (if _ then 0 else n) ≤ n + 1; split <;> omega, replace_cap _ _⟩
end JouM
