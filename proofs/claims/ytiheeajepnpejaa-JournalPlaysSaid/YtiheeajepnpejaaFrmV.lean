/- The walks of frame.first and frame.One. -/
import Derived.Test.YtiheeajepnpejaaFrmW
namespace Go.Proofs.Ytiheeajepnpejaa
open Go.RowKit FrameM
theorem first_short (A : Option Addr) (n c : Nat) (hn : n < 8) (w : World) :
    Calls Try.prog 49 #[.slice A n c] w fun e w' => e = .returned (.tuple #[.slice none 0 0, .bool false]) ∧ Below w.heap.size w w' := by
  go_enter Try.func49, Try.ntmps49
  go_wp2_with (go_at_call 54; refine (long_short A n c hn _).mono ?_; rintro e w' ⟨rfl, rfl⟩)
  go_quiet (fail)
  go_wp2
  go_ret2
  exact ⟨rfl, by repeat (first | exact Below.refl _ _ | refine below_drewN ?_ _ | refine Below.drew ?_)⟩
theorem first_wrong (A : Option Addr) (n c : Nat) (l : List UInt8) (w : World) (hl : Bs w A n l) (hm : n ≤ 1000000) (h0 : 8 ≤ n) (h1 : ¬ (num l ≤ 60000 ∧ num l + 8 ≤ n)) :
    Calls Try.prog 49 #[.slice A n c] w fun e w' => e = .returned (.tuple #[.slice none 0 0, .bool false]) ∧ Below w.heap.size w w' := by
  have HC := Lib.hid (long_no A n c l w hl hm h0 h1)
  clear h1
  generalize num l = m at HC
  go_enter Try.func49, Try.ntmps49
  go_wp2_with (go_at_call 54; refine HC.out.mono ?_; rintro e w' ⟨rfl, k, rfl⟩)
  go_quiet (fail)
  go_wp2
  go_ret2
  exact ⟨rfl, by repeat (first | exact Below.refl _ _ | refine below_drewN ?_ _ | refine Below.drew ?_)⟩
set_option maxHeartbeats 800000 in
theorem first_sum (b o : Nat) (n c : Nat) (l : List UInt8) (w : World) (hl : Bs w (some ⟨b, o, none⟩) n l) (hm : n ≤ 1000000) (hc : n ≤ c) (h1 : num l ≤ 60000) (h2 : num l + 8 ≤ n) (h3 : CrcM.crc (l.take (4 + num l)) ≠ num (l.drop (4 + num l))) :
    Calls Try.prog 49 #[.slice (some ⟨b, o, none⟩) n c] w fun e w' => e = .returned (.tuple #[.slice none 0 0, .bool false]) ∧ Below w.heap.size w w' := by
  have HC := Lib.hid (long_yes (some ⟨b, o, none⟩) n c l w hl hm h1 h2)
  have hb1 : Bs w (some ⟨b, o, none⟩) (4 + num l) (l.take (4 + num l)) := by
    have := hl.cut (k := 0) (by omega) (4 + num l) (by omega) (fun _ => ⟨b, o, rfl⟩) (some ⟨b, o, none⟩) (fun b' o' e _ => by rw [Nat.add_zero]; exact e)
    rw [List.drop_zero] at this
    exact this
  have hb2 : Bs w (some ⟨b, o + (4 + num l), none⟩) (n - (4 + num l)) (l.drop (4 + num l)) := by
    have := hl.cut (k := 4 + num l) (by omega) (n - (4 + num l)) (by omega) (fun _ => ⟨b, o, rfl⟩) (some ⟨b, o + (4 + num l), none⟩) (fun b' o' e _ => by injection e with e; injection e with e1 e2; rw [e1, e2])
    rw [List.take_of_length_le (by rw [List.length_drop, hl.1]; omega)] at this
    exact this
  have H1 := Lib.hid (fun k => crc_q _ _ c _ (w.drewN k) (hb1.drewN k) (by omega))
  have H2 := Lib.hid (fun k => number_any _ _ (c - (4 + num l)) _ (w.drewN k) (hb2.drewN k) (by omega))
  have hne : ((CrcM.crc (l.take (4 + num l)) : Int) != (num (l.drop (4 + num l)) : Int)) = true := by rw [bne_iff_ne]; omega
  generalize CrcM.crc (l.take (4 + num l)) = s1 at *
  generalize num (l.drop (4 + num l)) = s2 at *
  generalize num l = m at *
  clear hb1 hb2 hl h3
  have i1 : IntKind.i64.wrap (4 + (m : Int)) = 4 + (m : Int) := IntWalk.i64_in _ (by omega)
  have i2 : (0 : Int) ≤ 4 + (m : Int) := by omega
  have i3 : (4 + (m : Int)).toNat = 4 + m := by omega
  have i4 : 4 + (m : Int) ≤ (c : Int) := by omega
  have i5 : 4 + (m : Int) ≤ (n : Int) := by omega
  have i6 : ¬ c = 4 + m := by omega
  go_enter Try.func49, Try.ntmps49
  go_wp2_with (go_at_call 54; refine HC.out.mono ?_; rintro e w' ⟨rfl, k, rfl⟩)
  go_quiet ((first | (go_at_call 45; exact q_add (H1.out _)) | (go_at_call 55; exact q_add (H2.out _))))
  go_wp2
  go_ret2
  exact ⟨rfl, by repeat (first | exact Below.refl _ _ | refine below_drewN ?_ _ | refine Below.drew ?_)⟩
set_option maxHeartbeats 800000 in
theorem first_ok (b o : Nat) (n c : Nat) (l : List UInt8) (w : World) (hl : Bs w (some ⟨b, o, none⟩) n l) (hm : n ≤ 1000000) (hc : n ≤ c) (h1 : num l ≤ 60000) (h2 : num l + 8 ≤ n) (h3 : CrcM.crc (l.take (4 + num l)) = num (l.drop (4 + num l))) :
    Calls Try.prog 49 #[.slice (some ⟨b, o, none⟩) n c] w fun e w' => ∃ A2 c2, e = .returned (.tuple #[.slice A2 (num l) c2, .bool true]) ∧ Own w' w.heap.size (.slice A2 (num l) c2) ((l.drop 4).take (num l)) ∧ Below w.heap.size w w' := by
  have HC := Lib.hid (long_yes (some ⟨b, o, none⟩) n c l w hl hm h1 h2)
  have hb1 : Bs w (some ⟨b, o, none⟩) (4 + num l) (l.take (4 + num l)) := by
    have := hl.cut (k := 0) (by omega) (4 + num l) (by omega) (fun _ => ⟨b, o, rfl⟩) (some ⟨b, o, none⟩) (fun b' o' e _ => by rw [Nat.add_zero]; exact e)
    rw [List.drop_zero] at this
    exact this
  have hb2 : Bs w (some ⟨b, o + (4 + num l), none⟩) (n - (4 + num l)) (l.drop (4 + num l)) := by
    have := hl.cut (k := 4 + num l) (by omega) (n - (4 + num l)) (by omega) (fun _ => ⟨b, o, rfl⟩) (some ⟨b, o + (4 + num l), none⟩) (fun b' o' e _ => by injection e with e; injection e with e1 e2; rw [e1, e2])
    rw [List.take_of_length_le (by rw [List.length_drop, hl.1]; omega)] at this
    exact this
  have hb3 : Bs w (some ⟨b, o + 4, none⟩) (num l) ((l.drop 4).take (num l)) :=
    hl.cut (k := 4) (by omega) (num l) (by omega) (fun _ => ⟨b, o, rfl⟩) (some ⟨b, o + 4, none⟩) (fun b' o' e _ => by injection e with e; injection e with e1 e2; rw [e1, e2])
  have H1 := Lib.hid (fun k => crc_q _ _ c _ (w.drewN k) (hb1.drewN k) (by omega))
  have H2 := Lib.hid (fun k => number_any _ _ (c - (4 + num l)) _ (w.drewN k) (hb2.drewN k) (by omega))
  have H3 := Lib.hid (fun k => clone_any _ _ (c - 4) _ (w.drewN k) (hb3.drewN k) (by omega))
  have hne : ((CrcM.crc (l.take (4 + num l)) : Int) != (num (l.drop (4 + num l)) : Int)) = false := by rw [bne_eq_false_iff_eq]; omega
  generalize CrcM.crc (l.take (4 + num l)) = s1 at *
  generalize num (l.drop (4 + num l)) = s2 at *
  generalize (l.drop 4).take (num l) = x at *
  generalize num l = m at *
  clear hb1 hb2 hb3 hl h3
  have i1 : IntKind.i64.wrap (4 + (m : Int)) = 4 + (m : Int) := IntWalk.i64_in _ (by omega)
  have i2 : (0 : Int) ≤ 4 + (m : Int) := by omega
  have i3 : (4 + (m : Int)).toNat = 4 + m := by omega
  have i4 : 4 + (m : Int) ≤ (c : Int) := by omega
  have i5 : 4 + (m : Int) ≤ (n : Int) := by omega
  have i6 : ¬ c = 4 + m := by omega
  have i7 : ¬ c = 4 := by omega
  go_enter Try.func49, Try.ntmps49
  go_wp2_with (go_at_call 54; refine HC.out.mono ?_; rintro e w' ⟨rfl, k, rfl⟩)
  go_quiet ((first | (go_at_call 45; exact q_add (H1.out _)) | (go_at_call 55; exact q_add (H2.out _))))
  go_wp2_with (go_at_call 27; refine (H3.out _).mono ?_; rintro e w2 ⟨A2, c2, rfl, hown, hb2⟩)
  go_ret2
  exact ⟨A2, c2, rfl, hown, (below_drewN (Below.refl _ w) _).trans hb2⟩
theorem first_none (A : Option Addr) (n c : Nat) (l : List UInt8) (w : World) (hl : Bs w A n l) (hm : n ≤ 1000000) (hc : n ≤ c) (h : FrameM.first l = none) :
    Calls Try.prog 49 #[.slice A n c] w fun e w' => e = .returned (.tuple #[.slice none 0 0, .bool false]) ∧ Below w.heap.size w w' := by
  by_cases h8 : n < 8
  · exact first_short A n c h8 w
  · by_cases h1 : num l ≤ 60000 ∧ num l + 8 ≤ n
    · obtain ⟨b, o, rfl, _⟩ := hl.2.resolve_left (by omega)
      refine first_sum b o n c l w hl hm hc h1.1 h1.2 fun h3 => ?_
      unfold FrameM.first at h
      rw [if_pos ⟨by rw [hl.1]; omega, h1.1, by rw [hl.1]; exact h1.2, h3⟩] at h
      cases h
    · exact first_wrong A n c l w hl hm (by omega) h1
theorem first_yes (A : Option Addr) (n c : Nat) (l : List UInt8) (w : World) (hl : Bs w A n l) (hm : n ≤ 1000000) (hc : n ≤ c) {x : List UInt8} (h : FrameM.first l = some x) :
    Calls Try.prog 49 #[.slice A n c] w fun e w' => ∃ A2 c2, e = .returned (.tuple #[.slice A2 x.length c2, .bool true]) ∧ Own w' w.heap.size (.slice A2 x.length c2) x ∧ Below w.heap.size w w' := by
  have hx := (first_some h).2.2
  unfold FrameM.first at h
  split at h
  case isFalse => cases h
  case isTrue hcc =>
    obtain ⟨h8, h1, h2, h3⟩ := hcc
    rw [hl.1] at h8 h2
    injection h with h
    obtain ⟨b, o, rfl, _⟩ := hl.2.resolve_left (by omega)
    have := first_ok b o n c l w hl hm hc h1 h2 h3
    rw [h, ← hx] at this
    exact this
end Go.Proofs.Ytiheeajepnpejaa
