/- The methods of the package tape but Restart and Clone, walked. -/
import Derived.Test.YtiheeajepnpejaaTapC
namespace Go.Proofs.Ytiheeajepnpejaa
open Go.RowKit TapM
section
variable {w w' : World} {p : Nat} {s : TS}
theorem append_lost {l : List UInt8} (h : s.lost = true) : s.append l = (s, 9) := by unfold TS.append; rw [if_pos h]
theorem append_full {l : List UInt8} (h : s.lost = false) (hf : s.cap < s.b.length + l.length) : s.append l = (s, 4) := by unfold TS.append; rw [if_neg (by simp [h]), if_pos hf]
theorem append_burn {l : List UInt8} (h : s.lost = false) (hf : ¬ s.cap < s.b.length + l.length) (h0 : s.fuse = 0) : s.append l = ({ s with b := s.b ++ l, lost := true }, 9) := by
  unfold TS.append; rw [if_neg (by simp [h]), if_neg hf, if_pos h0]
theorem append_ok {l : List UInt8} (h : s.lost = false) (hf : ¬ s.cap < s.b.length + l.length) (h0 : ¬ s.fuse = 0) : s.append l = ({ s with b := s.b ++ l, fuse := dec s.fuse }, 0) := by
  unfold TS.append; rw [if_neg (by simp [h]), if_neg hf, if_neg h0]
theorem sync_lost (h : s.lost = true) : s.sync = (s, 9) := by unfold TS.sync; rw [if_pos h]
theorem sync_burn (h : s.lost = false) (h0 : s.fuse = 0) : s.sync = ({ s with lost := true }, 9) := by unfold TS.sync; rw [if_neg (by simp [h]), if_pos h0]
theorem sync_ok (h : s.lost = false) (h0 : ¬ s.fuse = 0) : s.sync = ({ s with safe := s.b.length, fuse := dec s.fuse }, 0) := by unfold TS.sync; rw [if_neg (by simp [h]), if_neg h0]
theorem replace_lost {l : List UInt8} (h : s.lost = true) : s.replace l = (s, 9) := by unfold TS.replace; rw [if_pos h]
theorem replace_full {l : List UInt8} (h : s.lost = false) (hf : s.cap < l.length) : s.replace l = (s, 4) := by unfold TS.replace; rw [if_neg (by simp [h]), if_pos hf]
theorem replace_burn {l : List UInt8} (h : s.lost = false) (hf : ¬ s.cap < l.length) (h0 : s.fuse = 0) : s.replace l = ({ s with lost := true }, 9) := by
  unfold TS.replace; rw [if_neg (by simp [h]), if_neg hf, if_pos h0]
theorem replace_ok {l : List UInt8} (h : s.lost = false) (hf : ¬ s.cap < l.length) (h0 : ¬ s.fuse = 0) : s.replace l = ({ s with b := l, safe := l.length, fuse := dec s.fuse }, 0) := by
  unfold TS.replace; rw [if_neg (by simp [h]), if_neg hf, if_neg h0]
theorem arm_lost {n : Int} (h : s.lost = true) : s.arm n = (s, 9) := by unfold TS.arm; rw [if_pos h]
theorem arm_arg {n : Int} (h : s.lost = false) (hn : n < 0) : s.arm n = (s, 1) := by unfold TS.arm; rw [if_neg (by simp [h]), if_pos hn]
theorem arm_ok {n : Int} (h : s.lost = false) (hn : ¬ n < 0) : s.arm n = ({ s with fuse := n }, 0) := by unfold TS.arm; rw [if_neg (by simp [h]), if_neg hn]
/-- A tape opened: its cells. -/
theorem TapeAt.open_ (h : TapeAt w p s) : ∃ A c, Cells w p 57 (tc s.cap (.slice A s.b.length c) s.safe s.fuse s.lost) ∧ Own w (p + 1) (.slice A s.b.length c) s.b := by
  obtain ⟨_, A, c, hc, ho⟩ := h
  exact ⟨A, c, hc, ho⟩
theorem ret_i {a b : Int} (h : a = b) : Ending.returned (.int .i64 a) = .returned (.int .i64 b) := by rw [h]
end
/-! ### New, and what only reads -/
theorem new_bad (n : Int) (h : n < 0 ∨ 1048576 < n) (w : World) : Calls Try.prog 6 #[.int .i64 n] w fun e w' => e = .returned (.tuple #[.pointer none, .int .i64 1]) ∧ w = w' := by
  by_cases h0 : n < 0
  · go_enter Try.func6, Try.ntmps6
    go_wp2
    go_ret2
    exact ⟨rfl, rfl⟩
  · have h1 : 1048576 < n := by omega
    go_enter Try.func6, Try.ntmps6
    go_wp2
    go_ret2
    exact ⟨rfl, rfl⟩
theorem new_ok (n : Nat) (h : n ≤ 1048576) (w : World) : Calls Try.prog 6 #[.int .i64 (n : Int)] w fun e w' => ∃ p, e = .returned (.tuple #[.pointer (some ⟨p, 0, none⟩), .int .i64 0]) ∧ w.heap.size ≤ p ∧ TapeAt w' p (TS.new n) ∧ Below w.heap.size w w' := by
  go_enter Try.func6, Try.ntmps6
  go_wp2
  go_ret2
  exact ⟨w.heap.size, rfl, Nat.le_refl _, ⟨TS.Ok.new h, none, 0, Cells.new w _ _, Own.nil _ _⟩, (Below.refl _ _).alloc (Nat.le_refl _) _⟩
theorem safe_any (p : Nat) (s : TS) (w : World) (h : TapeAt w p s) : Calls Try.prog 24 #[.pointer (some ⟨p, 0, none⟩)] w fun e w' => e = .returned (.int .i64 (s.safe : Int)) ∧ w = w' := by
  obtain ⟨A, c, hC, ho⟩ := h.open_
  have h2 : w.cell? ⟨p, 2, none⟩ = some (.int .i64 (s.safe : Int)) := hC.cell 2
  go_enter Try.func24, Try.ntmps24
  go_wp2
  go_ret
  exact ⟨rfl, rfl⟩
theorem safe_nil (w : World) : Calls Try.prog 24 #[.pointer none] w fun e w' => e = .returned (.int .i64 0) ∧ w = w' := by
  go_enter Try.func24, Try.ntmps24
  go_wp2
  go_ret
  exact ⟨rfl, rfl⟩
theorem len_any (p : Nat) (s : TS) (w : World) (h : TapeAt w p s) : Calls Try.prog 11 #[.pointer (some ⟨p, 0, none⟩)] w fun e w' => e = .returned (.int .i64 (s.b.length : Int)) ∧ w = w' := by
  obtain ⟨A, c, hC, ho⟩ := h.open_
  have h2 : w.cell? ⟨p, 1, none⟩ = some (.slice A s.b.length c) := hC.cell 1
  go_enter Try.func11, Try.ntmps11
  go_wp2
  go_ret
  exact ⟨rfl, rfl⟩
theorem len_nil (w : World) : Calls Try.prog 11 #[.pointer none] w fun e w' => e = .returned (.int .i64 0) ∧ w = w' := by
  go_enter Try.func11, Try.ntmps11
  go_wp2
  go_ret
  exact ⟨rfl, rfl⟩
theorem lost_any (p : Nat) (s : TS) (w : World) (h : TapeAt w p s) : Calls Try.prog 39 #[.pointer (some ⟨p, 0, none⟩)] w fun e w' => e = .returned (.bool s.lost) ∧ w = w' := by
  obtain ⟨A, c, hC, ho⟩ := h.open_
  have h2 : w.cell? ⟨p, 4, none⟩ = some (.bool s.lost) := hC.cell 4
  go_enter Try.func39, Try.ntmps39
  go_wp2
  go_ret
  exact ⟨rfl, rfl⟩
theorem lost_nil (w : World) : Calls Try.prog 39 #[.pointer none] w fun e w' => e = .returned (.bool false) ∧ w = w' := by
  go_enter Try.func39, Try.ntmps39
  go_wp2
  go_ret
  exact ⟨rfl, rfl⟩
theorem read_nil (w : World) : Calls Try.prog 38 #[.pointer none] w fun e w' => e = .returned (.tuple #[.slice none 0 0, .int .i64 1]) ∧ w = w' := by
  go_enter Try.func38, Try.ntmps38
  go_wp2_with (go_at_call 25; refine (gone_nil _).mono ?_; rintro e w' ⟨rfl, rfl⟩)
  go_ret2
  exact ⟨rfl, rfl⟩
theorem read_lost (p : Nat) (s : TS) (w : World) (h : TapeAt w p s) (hl : s.lost = true) : Calls Try.prog 38 #[.pointer (some ⟨p, 0, none⟩)] w fun e w' => e = .returned (.tuple #[.slice none 0 0, .int .i64 9]) ∧ w = w' := by
  obtain ⟨A, c, hC, ho⟩ := h.open_
  rw [hl] at hC
  clear hl
  go_enter Try.func38, Try.ntmps38
  go_wp2_with (go_at_call 25; refine (gone_lost _ hC).mono ?_; rintro e w' ⟨rfl, rfl⟩)
  go_ret2
  exact ⟨rfl, rfl⟩
theorem read_on (p : Nat) (s : TS) (w : World) (h : TapeAt w p s) (hl : s.lost = false) :
    Calls Try.prog 38 #[.pointer (some ⟨p, 0, none⟩)] w fun e w' => ∃ A2 c2, e = .returned (.tuple #[.slice A2 s.b.length c2, .int .i64 0]) ∧ Own w' w.heap.size (.slice A2 s.b.length c2) s.b ∧ Below w.heap.size w w' := by
  obtain ⟨A, c, hC, ho⟩ := h.open_
  have hbc := h.ok.bc
  have hcc := h.ok.cc
  rw [hl] at hC
  clear hl
  have h1 : w.cell? ⟨p, 1, none⟩ = some (.slice A s.b.length c) := hC.cell 1
  go_enter Try.func38, Try.ntmps38
  go_wp2_with (first
    | (go_at_call 25; refine (gone_on _ hC).mono ?_; rintro e w' ⟨rfl, rfl⟩)
    | (go_at_call 27; refine (clone_any A s.b.length c s.b _ ho.bs (by omega)).mono ?_; rintro e w2 ⟨A2, c2, rfl, hown, hb2⟩))
  go_ret2
  exact ⟨A2, c2, rfl, hown, hb2⟩
/-! ### What turns a tape -/
theorem append_nil (B : Option Addr) (m d : Nat) (w : World) : Calls Try.prog 33 #[.pointer none, .slice B m d] w fun e w' => e = .returned (.int .i64 1) ∧ w = w' := by
  go_enter Try.func33, Try.ntmps33
  go_wp2_with (go_at_call 25; refine (gone_nil _).mono ?_; rintro e w' ⟨rfl, rfl⟩)
  go_ret
  exact ⟨rfl, rfl⟩
set_option maxHeartbeats 800000 in
theorem append_any (p : Nat) (s : TS) (B : Option Addr) (m d : Nat) (l : List UInt8) (w : World) (h : TapeAt w p s) (hl : Bs w B m l) :
    Calls Try.prog 33 #[.pointer (some ⟨p, 0, none⟩), .slice B m d] w fun e w' => e = .returned (.int .i64 ((s.append l).2 : Nat)) ∧ Turned w w' p (s.append l).1 := by
  have hok2 := h.ok.append l
  obtain ⟨A, c, hC, ho⟩ := h.open_
  have hbc := h.ok.bc
  have hcc := h.ok.cc
  have hf0 := h.ok.f0
  have hf1 := h.ok.f1
  have hm := hl.1
  subst hm
  cases hlost : s.lost with
  | true =>
    rw [append_lost hlost]
    rw [hlost] at hC
    clear hlost
    go_enter Try.func33, Try.ntmps33
    go_wp2_with (go_at_call 25; refine (gone_lost _ hC).mono ?_; rintro e w' ⟨rfl, rfl⟩)
    go_ret
    exact ⟨rfl, Turned.stay h⟩
  | false =>
    have hC0 := hC
    rw [hlost] at hC
    have h0 : w.cell? ⟨p, 0, none⟩ = some (.int .i64 (s.cap : Int)) := hC.cell 0
    have h1 : w.cell? ⟨p, 1, none⟩ = some (.slice A s.b.length c) := hC.cell 1
    have i1 : IntKind.i64.wrap ((s.cap : Int) - (s.b.length : Int)) = (s.cap : Int) - (s.b.length : Int) := IntWalk.i64_in _ (by omega)
    by_cases hf : s.cap < s.b.length + l.length
    · rw [append_full hlost hf]
      clear hlost
      have d0 : decide ((s.cap : Int) - (s.b.length : Int) < (l.length : Int)) = true := by simp; omega
      go_enter Try.func33, Try.ntmps33
      go_wp2_with (go_at_call 25; refine (gone_on _ hC).mono ?_; rintro e w' ⟨rfl, rfl⟩)
      go_quiet (fail)
      go_wp2
      go_ret
      exact ⟨rfl, h.drewN _, only_drewN (only_refl w _) _, fun g _ h v hv => h v hv⟩
    · have hi : (l.length : Int) ≤ (s.cap : Int) - (s.b.length : Int) := by omega
      have d0 : decide ((s.cap : Int) - (s.b.length : Int) < (l.length : Int)) = false := by simp; omega
      have f1 := hC.free 1
      by_cases hz : s.fuse = 0
      · rw [append_burn hlost hf hz] at hok2 ⊢
        rw [hz] at hC hC0
        have HZ := Lib.hid hz
        clear hlost hz
        go_enter Try.func33, Try.ntmps33
        go_wp2_with (go_at_call 25; refine (gone_on _ hC).mono ?_; rintro e w' ⟨rfl, rfl⟩)
        go_quiet (fail)
        go_wp2_with (first
          | (go_at_call 46; refine (concat_two _ A B _ _ c d s.b l _ ((Cells.new (w.drewN nq) _ _).cell 0) ((Cells.new (w.drewN nq) _ _).cell 1) ((ho.bs.drewN nq).alloc _) ((hl.drewN nq).alloc _) (by omega) (by omega)).mono ?_; rintro e w2 ⟨A2, c2, rfl, hown2, hb2⟩; have hC2 := ((hC.drewN nq).alloc _).below hb2; have k1 := hC2.cell 1; have k2 := hC2.free 1)
          | (go_at_call 26; have hC3 : Cells (w2.setCell ⟨p, 1, none⟩ (.slice A2 (s.b.length + l.length) c2)) p 57 (tc s.cap (.slice A2 (s.b.length + l.length) c2) s.safe 0 false) := hC2.store 1 _; refine (burns_yes _ hC3).mono ?_; rintro e w4 ⟨rfl, hg4, hC4⟩))
        go_ret
        have hg2 : w2.grownBy w4 (some p) := only_trans (only_store (only_refl w2 _) _ _) hg4
        have hg : w.grownBy w4 (some p) := only_trans (only_below (only_alloc (only_drewN (only_refl w _) nq) _) hb2) hg2
        have e : (s.b ++ l).length = s.b.length + l.length := List.length_append
        rw [← e] at hown2
        exact ⟨rfl, Turned.new (A := A2) (c := c2) hC.lt ((hown2.grown hg2 hC2 tape_ne).mono (by simp)) hok2 hg (by show Cells _ _ _ (tc _ (.slice A2 (s.b ++ l).length c2) _ s.fuse true); rw [HZ.out, e]; exact hC4)⟩
      · rw [append_ok hlost hf hz] at hok2 ⊢
        have HL := Lib.hid hlost
        clear hlost
        go_enter Try.func33, Try.ntmps33
        go_wp2_with (go_at_call 25; refine (gone_on _ hC).mono ?_; rintro e w' ⟨rfl, rfl⟩)
        go_quiet (fail)
        go_wp2_with (first
          | (go_at_call 46; refine (concat_two _ A B _ _ c d s.b l _ ((Cells.new (w.drewN nq) _ _).cell 0) ((Cells.new (w.drewN nq) _ _).cell 1) ((ho.bs.drewN nq).alloc _) ((hl.drewN nq).alloc _) (by omega) (by omega)).mono ?_; rintro e w2 ⟨A2, c2, rfl, hown2, hb2⟩; have hC2 := ((hC.drewN nq).alloc _).below hb2; have k1 := hC2.cell 1; have k2 := hC2.free 1)
          | (go_at_call 26; have hC3 : Cells (w2.setCell ⟨p, 1, none⟩ (.slice A2 (s.b.length + l.length) c2)) p 57 (tc s.cap (.slice A2 (s.b.length + l.length) c2) s.safe s.fuse false) := hC2.store 1 _; refine (burns_no _ hC3 hz hf0 hf1).mono ?_; rintro e w4 ⟨rfl, hg4, hC4⟩))
        go_ret
        have hg2 : w2.grownBy w4 (some p) := only_trans (only_store (only_refl w2 _) _ _) hg4
        have hg : w.grownBy w4 (some p) := only_trans (only_below (only_alloc (only_drewN (only_refl w _) nq) _) hb2) hg2
        have e : (s.b ++ l).length = s.b.length + l.length := List.length_append
        rw [← e] at hown2
        exact ⟨rfl, Turned.new (A := A2) (c := c2) hC.lt ((hown2.grown hg2 hC2 tape_ne).mono (by simp)) hok2 hg (by show Cells _ _ _ (tc _ (.slice A2 (s.b ++ l).length c2) _ (dec s.fuse) s.lost); rw [HL.out, e]; exact hC4)⟩
end Go.Proofs.Ytiheeajepnpejaa
