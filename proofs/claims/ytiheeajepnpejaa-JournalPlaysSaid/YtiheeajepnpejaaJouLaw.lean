/- What a journal keeps, wherever the power goes: plain laws. No program in sight. -/
import Derived.Test.YtiheeajepnpejaaJouMath
namespace JouM
open TapM Go.Proofs.Ytiheeajepnpejaa.FrameM
/-- A tape on which just these records are, all safe; with a fuse. -/
def jf (cap : Nat) (xs : List (List UInt8)) (f : Int) : TS := ⟨cap, framed xs, (framed xs).length, f, false⟩
/-- The power is gone while a record was under way. -/
def dead (cap : Nat) (xs : List (List UInt8)) (l : List UInt8) : TS := ⟨cap, framed xs ++ frame l, (framed xs).length, 0, true⟩
theorem jf_ok {cap : Nat} {xs : List (List UInt8)} {f : Int} (h1 : (framed xs).length ≤ cap) (h2 : cap ≤ 1048576) (h3 : -1 ≤ f) (h4 : f ≤ 9223372036854775807) : (jf cap xs f).Ok := ⟨Nat.le_refl _, h1, h2, h3, h4⟩
theorem recs_nil : recs [] = [] := recs_eq (Parse.mk_nil [] first_nil)
theorem framed_one' (x : List UInt8) : framed [x] = frame x := by rw [framed_cons, framed_nil, List.append_nil]
theorem opened_new {cap : Nat} {base : List UInt8} (h : base.length ≤ 60000) (hc : base.length + 8 ≤ cap) : opened (TS.new cap) base = (jf cap [base] (-1), [base], 0) := by
  have hb : base1 ([] : List UInt8) base = [base] := by unfold base1; rw [if_pos recs_nil]
  have hr : (TS.new cap).replace (framed [base]) = (jf cap [base] (-1), 0) := by
    unfold TS.replace
    rw [if_neg (by simp [TS.new]), if_neg (by rw [framed_one', frame_length]; show ¬ cap < _; omega), if_neg (by simp [TS.new])]
    rfl
  unfold opened
  rw [if_neg (by omega), if_neg (by simp [TS.new])]
  show (if (framed (recs [])).length = 0 ∨ (framed (recs [])).length < 0 then _ else _) = _
  rw [recs_nil, if_pos (.inl rfl)]
  show (if ((TS.new cap).replace (framed (base1 [] base))).2 = 0 then (((TS.new cap).replace (framed (base1 [] base))).1, base1 [] base, 0) else _) = _
  rw [hb, hr]
  rfl
theorem write_go {cap n : Nat} {xs : List (List UInt8)} {f : Int} {l : List UInt8} (hl : l.length ≤ 60000) (hc : (framed xs).length + (l.length + 8) ≤ cap) (hf : f = -1 ∨ 2 ≤ f) :
    JouM.write (jf cap xs f) n l = ((jf cap (xs ++ [l]) (dec (dec f)), n + 1), 0) := by
  have h1 : (jf cap xs f).append (frame l) = (⟨cap, framed xs ++ frame l, (framed xs).length, dec f, false⟩, 0) := by
    unfold TS.append
    rw [if_neg (by simp [jf]), if_neg (by rw [frame_length]; show ¬ cap < _; simp [jf]; omega), if_neg (by show ¬ f = 0; omega)]
    rfl
  have h2 : (⟨cap, framed xs ++ frame l, (framed xs).length, dec f, false⟩ : TS).sync = (⟨cap, framed xs ++ frame l, (framed xs ++ frame l).length, dec (dec f), false⟩, 0) := by
    unfold TS.sync
    rw [if_neg (by simp), if_neg (by show ¬ dec f = 0; unfold dec; split <;> omega)]
  unfold JouM.write
  rw [if_neg (by omega), h1, if_neg (by simp), h2, if_neg (by simp)]
  unfold jf
  rw [framed_snoc]
theorem write_dead {cap n : Nat} {xs : List (List UInt8)} {f : Int} {l : List UInt8} (hl : l.length ≤ 60000) (hc : (framed xs).length + (l.length + 8) ≤ cap) (hf : f = 0 ∨ f = 1) :
    JouM.write (jf cap xs f) n l = ((dead cap xs l, n), 9) := by
  have hcc : ¬ cap < (framed xs).length + (frame l).length := by rw [frame_length]; omega
  rcases hf with rfl | rfl
  · have h1 : (jf cap xs 0).append (frame l) = (dead cap xs l, 9) := by
      unfold TS.append
      rw [if_neg (by simp [jf]), if_neg (show ¬ (jf cap xs 0).cap < (jf cap xs 0).b.length + (frame l).length from hcc), if_pos (show (jf cap xs 0).fuse = 0 from rfl)]
      rfl
    unfold JouM.write
    rw [if_neg (by omega), h1, if_pos (by simp)]
  · have h1 : (jf cap xs 1).append (frame l) = (⟨cap, framed xs ++ frame l, (framed xs).length, 0, false⟩, 0) := by
      unfold TS.append
      rw [if_neg (by simp [jf]), if_neg (show ¬ (jf cap xs 1).cap < (jf cap xs 1).b.length + (frame l).length from hcc), if_neg (by simp [jf])]
      rfl
    have h2 : (⟨cap, framed xs ++ frame l, (framed xs).length, 0, false⟩ : TS).sync = (dead cap xs l, 9) := by
      unfold TS.sync
      rw [if_neg (by simp), if_pos rfl]
      rfl
    unfold JouM.write
    rw [if_neg (by omega), h1, if_neg (by simp), h2, if_pos (by simp)]
/-- What is left of a frame, its last byte whatever: it's no frame, or just that one. -/
theorem first_tail {l t : List UInt8} (hl : l.length ≤ 60000) {i : Nat} (hi : i ≤ (frame l).length) (ht : t.length = i) (hp : t.take (i - 1) = (frame l).take (i - 1)) : first t = none ∨ t = frame l := by
  cases hf : first t with
  | none => exact .inl rfl
  | some x =>
    right
    obtain ⟨hx, hb, hn⟩ := first_some hf
    have hfl := frame_length l
    have hl8 : 8 + x.length ≤ t.length := by
      have := congrArg List.length hb
      rw [List.length_append, frame_length] at this
      omega
    have e1 : num t = l.length := by
      have h1 : num (t.take (i - 1)) = num t := num_take (by omega) t
      have h2 : num ((frame l).take (i - 1)) = num (frame l) := num_take (by omega) _
      have h3 : num (frame l) = l.length := by
        have := num_frame l [] (by omega)
        rwa [List.append_nil] at this
      rw [← h1, hp, h2, h3]
    have e2 : i = l.length + 8 := by omega
    have e3 : t = frame x := by
      have hd : t.drop (8 + x.length) = [] := List.drop_of_length_le (by omega)
      rw [hd, List.append_nil] at hb
      exact hb
    have e4 : (frame x).take (4 + l.length) = (frame l).take (4 + l.length) := by
      have := congrArg (List.take (4 + l.length)) hp
      rw [List.take_take, List.take_take, Nat.min_eq_left (by omega)] at this
      rw [← e3]
      exact this
    have e5 : x = l := by
      have hxl : x.length = l.length := by omega
      have h1 : ∀ z : List UInt8, z.length = l.length → ((frame z).take (4 + l.length)).drop 4 = z := by
        intro z hz
        unfold frame
        rw [← hz, List.take_left' (by rw [List.length_append, four_length]), List.drop_left' (four_length _)]
      have := congrArg (List.drop 4) e4
      rw [h1 x hxl, h1 l rfl] at this
      exact this
    rw [e3, e5]
/-- Opened again, all records are there, and perhaps the one that was under way. -/
theorem parse_append {xs : List (List UInt8)} {t : List UInt8} (hx : ∀ x ∈ xs, x.length ≤ 60000) (ht : first t = none) : Parse (framed xs ++ t) xs t := ⟨hx, rfl, ht⟩
theorem opened_of {s : TS} {base : List UInt8} {xs : List (List UInt8)} {t : List UInt8} (hb : base.length ≤ 60000) (hx : ∀ x ∈ xs, x.length ≤ 60000) (hne : xs ≠ []) (hs : s.b = framed xs ++ t) (ht : first t = none) (hlost : s.lost = false) (hf : s.fuse = -1) (hc : (framed xs).length ≤ s.cap) :
    ∃ s2, opened s base = (s2, xs, 0) := by
  have hr : recs s.b = xs := by rw [hs]; exact recs_eq (parse_append hx ht)
  have hb1 : base1 s.b base = xs := by unfold base1; rw [hr, if_neg hne]
  have hrep : s.replace (framed xs) = ({ s with b := framed xs, safe := (framed xs).length, fuse := dec s.fuse }, 0) := by
    unfold TS.replace
    rw [if_neg (by simp [hlost]), if_neg (by omega), if_neg (by omega)]
  unfold opened
  rw [if_neg (by omega), if_neg (by simp [hlost]), hb1, hrep]
  split
  · rw [if_pos rfl]
    exact ⟨_, rfl⟩
  · exact ⟨_, rfl⟩
theorem opened_jf {cap : Nat} {xs : List (List UInt8)} {f keep : Int} {y : UInt8} {base : List UInt8} (hb : base.length ≤ 60000) (hx : ∀ x ∈ xs, x.length ≤ 60000) (hne : xs ≠ []) (hc : (framed xs).length ≤ cap) :
    ∃ s2, opened ((jf cap xs f).restart keep y) base = (s2, xs, 0) := by
  have hst : (jf cap xs f).stay keep = (framed xs).length := by
    unfold TS.stay jf
    simp
  have hl : ((jf cap xs f).restart keep y).b = framed xs ++ [] := by
    show (jf cap xs f).left ((jf cap xs f).stay keep) y = _
    rw [hst, List.append_nil]
    unfold TS.left jf
    rw [if_neg (by simp)]
    exact List.take_of_length_le (Nat.le_refl _)
  exact opened_of hb hx hne hl first_nil rfl rfl hc
theorem opened_dead {cap : Nat} {xs : List (List UInt8)} {l : List UInt8} {keep : Int} {y : UInt8} {base : List UInt8} (hb : base.length ≤ 60000) (hx : ∀ x ∈ xs, x.length ≤ 60000) (hl : l.length ≤ 60000) (hne : xs ≠ []) (hc : (framed xs).length + (l.length + 8) ≤ cap) :
    ∃ s2 ys, opened ((dead cap xs l).restart keep y) base = (s2, ys, 0) ∧ (ys = xs ∨ ys = xs ++ [l]) := by
  have hm0 := Int.emod_nonneg keep (show ((dead cap xs l).b.length : Int) - (dead cap xs l).safe + 1 ≠ 0 by simp [dead]; omega)
  have hm1 := Int.emod_lt_of_pos keep (show (0 : Int) < ((dead cap xs l).b.length : Int) - (dead cap xs l).safe + 1 by simp [dead]; omega)
  obtain ⟨i, hi⟩ : ∃ i, (keep % (((dead cap xs l).b.length : Int) - (dead cap xs l).safe + 1)).toNat = i := ⟨_, rfl⟩
  have hil : i ≤ (frame l).length := by
    have hlb : ((dead cap xs l).b.length : Int) - (dead cap xs l).safe = ((frame l).length : Int) := by simp [dead]; omega
    rw [hlb] at hi hm1 hm0
    omega
  have hst : (dead cap xs l).stay keep = (framed xs).length + i := by
    unfold TS.stay
    rw [hi]
    rfl
  obtain ⟨t, ht, htl, htp⟩ : ∃ t, ((dead cap xs l).restart keep y).b = framed xs ++ t ∧ t.length = i ∧ t.take (i - 1) = (frame l).take (i - 1) := by
    have hb0 : ((dead cap xs l).restart keep y).b = (dead cap xs l).left ((framed xs).length + i) y := by
      show (dead cap xs l).left ((dead cap xs l).stay keep) y = _
      rw [hst]
    rw [hb0]
    have htk : (framed xs ++ frame l).take ((framed xs).length + i) = framed xs ++ (frame l).take i := by rw [List.take_append, List.take_of_length_le (by omega), Nat.add_sub_cancel_left]
    have hset : 0 < i → ∀ z, (framed xs ++ (frame l).take i).set ((framed xs).length + i - 1) z = framed xs ++ ((frame l).take i).set (i - 1) z := by
      intro h0 z
      rw [List.set_append, if_neg (by omega), show (framed xs).length + i - 1 - (framed xs).length = i - 1 from by omega]
    unfold TS.left
    show ∃ t, (if (framed xs).length < (framed xs).length + i then (((framed xs ++ frame l).take ((framed xs).length + i)).set ((framed xs).length + i - 1) _) else (framed xs ++ frame l).take ((framed xs).length + i)) = _ ∧ _
    rw [htk]
    by_cases h0 : i = 0
    · subst h0
      rw [if_neg (by omega)]
      exact ⟨[], by simp, rfl, by simp⟩
    · rw [if_pos (by omega), hset (by omega)]
      refine ⟨_, rfl, by rw [List.length_set, List.length_take]; omega, ?_⟩
      rw [List.take_set_of_le (by omega), List.take_take, Nat.min_eq_left (by omega)]
  rcases first_tail hl hil htl htp with h | h
  · obtain ⟨s2, h2⟩ := opened_of (base := base) hb hx hne ht h rfl rfl (by show _ ≤ cap; omega)
    exact ⟨s2, xs, h2, .inl rfl⟩
  · rw [h, ← framed_snoc, ← List.append_nil (framed (xs ++ [l]))] at ht
    obtain ⟨s2, h2⟩ := opened_of (base := base) hb (fun x hxx => by
      rcases List.mem_append.1 hxx with h | h
      · exact hx x h
      · simp at h; rw [h]; exact hl) (by simp) ht first_nil rfl rfl (by show _ ≤ cap; rw [framed_snoc, List.length_append, frame_length]; omega)
    exact ⟨s2, _, h2, .inr rfl⟩
theorem restart_len {s : TS} (h : s.Ok) (keep : Int) (y : UInt8) : (s.restart keep y).b.length ≤ s.b.length := by
  have h1 := TS.stay_le h keep
  have h2 : (s.restart keep y).b.length = s.stay keep := TS.left_length h1.2 y
  omega
end JouM
