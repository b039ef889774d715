/- The laws FrameIs, FrameOne, FrameTurned, FrameCut and FrameNests of layer 4, walked: each answers true, whatever bytes. -/
import Derived.Test.YtcgdkfhfchkdlaaFrmT
namespace Go.Proofs.Ytcgdkfhfchkdlaa
open Go.RowKit FrameM
theorem awake_get (L : List UInt8) (h : L = frame [97, 98]) : L.getD 4 0 = 97 := by
  rw [h]; rfl
theorem awake_cell {w : World} {base c : Nat} {A : Option Addr} (hown : Own w base (.slice A (2 + 8) c) (frame [97, 98])) : ∃ g, A = some ⟨g, 0, none⟩ ∧ w.cell? ⟨g, 4, none⟩ = some (.int .u8 97) := by
  obtain ⟨L, hL⟩ : ∃ L, frame [97, 98] = L := ⟨_, rfl⟩
  have hLl : L.length = 10 := by rw [← hL, frame_length]; rfl
  have hg4 := awake_get L hL.symm
  rw [hL] at hown
  obtain ⟨g, rfl, _, _⟩ := hown.addr (by omega)
  have hc4 := hown.cell (j := 4) (by omega)
  have e4 : L[4]'(by omega) = 97 := by rw [← hg4]; simp [List.getD, List.getElem?_eq_getElem (show 4 < L.length by omega)]
  rw [e4] at hc4
  exact ⟨g, rfl, hc4⟩
/-- tributarylaw04.awake: it answers true. -/
theorem awake04_any (w : World) : Calls Try.prog 40 #[] w fun e w' => e = .returned (.bool true) ∧ Below w.heap.size w w' := by
  have kc := fun (w : World) (C : Array Value) (n c : Nat) => Lib.run_convert_bytes_const (P := Try.prog) w 33 5 C n c Try.underlying33 Try.underlying5
  have hb : Bs _ _ 2 [97, 98] := Bs.lit w 5 [97, 98] #[.int .u8 97, .int .u8 98] (2, 3) rfl
  have hc := frame_any _ 2 2 _ _ hb (by omega)
  have HC := Lib.hid hc
  clear hc hb
  go_enter Try.func40, Try.ntmps40
  go_wp2_with (go_at_call 41; refine HC.out.mono ?_; rintro e w1 ⟨A2, c2, rfl, hown, hb⟩; obtain ⟨g, rfl, hc4'⟩ := awake_cell hown)
  go_ret
  exact ⟨rfl, ((Below.refl _ w).alloc (Nat.le_refl _) _).trans (hb.mono (by simp))⟩
theorem conv (A : Option Addr) (n c : Nat) (l : List UInt8) (w : World) (h : Bs w A n l) : (convert 33 9 (.slice A n c)).run Try.prog w = .ok (.string ⟨l.toArray⟩) w :=
  run_string_of Try.underlying33 Try.underlying5 Try.underlying9 c h
set_option maxHeartbeats 800000 in
theorem frameIs_law (A : Option Addr) (n c : Nat) (l : List UInt8) (w : World) (hl : Bs w A n l) (_ : n ≤ c) :
    Calls Try.prog 10 #[.slice A n c] w fun e w' => e = .returned (.bool true) ∧ Below w.heap.size w w' := by
  by_cases hn : n ≤ 100000
  · by_cases hn6 : n ≤ 60000
    · go_enter Try.func10, Try.ntmps10
      go_wp2_with (first
        | (go_at_call 40; refine (awake04_any _).mono ?_; rintro e w1 ⟨rfl, hb1⟩)
        | (go_at_call 41; refine (frame_any A n c l _ (hl.below hb1) hn6).mono ?_; rintro e w2 ⟨A2, c2, rfl, hown2, hb2⟩)
        | (go_at_call 42; refine (refframe_any A n c l _ ((hl.below hb1).below hb2) hn6).mono ?_; rintro e w3 ⟨A3, c3, rfl, hown3, hb3⟩; have s1 := conv A2 (n + 8) c2 _ _ (hown2.bs.below hb3); have s2 := conv A3 (n + 8) c3 _ _ hown3.bs))
      generalize (⟨(frame l).toArray⟩ : ByteArray) = S at s1 s2
      go_wp2
      go_ret
      exact ⟨by simp, (hb1.trans (hb2.mono hb1.size)).trans (hb3.mono (by have := hb1.size; have := hb2.size; omega))⟩
    · go_enter Try.func10, Try.ntmps10
      go_wp2_with (first
        | (go_at_call 40; refine (awake04_any _).mono ?_; rintro e w1 ⟨rfl, hb1⟩)
        | (go_at_call 41; refine (frame_long A n c (by omega) _).mono ?_; rintro e w2 ⟨rfl, rfl⟩)
        | (go_at_call 42; refine (refframe_long A n c (by omega) _).mono ?_; rintro e w3 ⟨rfl, rfl⟩))
      go_ret
      exact ⟨rfl, hb1⟩
  · go_enter Try.func10, Try.ntmps10
    go_wp2_with (first
      | (go_at_call 40; have hb0 := hb1; refine (awake04_any _).mono ?_; rintro e w2 ⟨rfl, hb2⟩)
      | (go_at_call 40; refine (awake04_any _).mono ?_; rintro e w1 ⟨rfl, hb1⟩))
    go_ret
    exact ⟨rfl, hb1.trans (hb2.mono hb1.size)⟩
set_option maxHeartbeats 800000 in
theorem frameOne_law (A : Option Addr) (n c : Nat) (l : List UInt8) (w : World) (hl : Bs w A n l) (hc : n ≤ c) :
    Calls Try.prog 16 #[.slice A n c] w fun e w' => e = .returned (.bool true) ∧ Below w.heap.size w w' := by
  by_cases hn : n ≤ 100000
  · obtain ⟨x, hx⟩ : ∃ x, FrameM.one l = x := ⟨_, rfl⟩
    have H1 := Lib.hid (fun w hl => one_any A n c l w hl (by omega) hc)
    have H2 := Lib.hid (fun w hl => refone_any A n c l w hl (by omega) hc)
    rw [hx] at H1 H2
    obtain ⟨x, m⟩ := x
    clear hx
    go_enter Try.func16, Try.ntmps16
    go_wp2_with (first
      | (go_at_call 40; refine (awake04_any _).mono ?_; rintro e w1 ⟨rfl, hb1⟩)
      | (go_at_call 47; refine (H1.out _ (hl.below hb1)).mono ?_; rintro e w2 ⟨A2, c2, rfl, hown2, hb2⟩)
      | (go_at_call 48; refine (H2.out _ ((hl.below hb1).below hb2)).mono ?_; rintro e w3 ⟨A3, c3, rfl, hown3, hb3⟩; have s1 := conv A2 _ c2 _ _ (hown2.bs.below hb3); have s2 := conv A3 _ c3 _ _ hown3.bs))
    generalize (⟨x.toArray⟩ : ByteArray) = S at s1 s2
    go_wp2
    go_ret
    exact ⟨by simp, (hb1.trans (hb2.mono hb1.size)).trans (hb3.mono (by have := hb1.size; have := hb2.size; omega))⟩
  · go_enter Try.func16, Try.ntmps16
    go_wp2_with (first
      | (go_at_call 40; have hb0 := hb1; refine (awake04_any _).mono ?_; rintro e w2 ⟨rfl, hb2⟩)
      | (go_at_call 40; refine (awake04_any _).mono ?_; rintro e w1 ⟨rfl, hb1⟩))
    go_ret
    exact ⟨rfl, hb1.trans (hb2.mono hb1.size)⟩
end Go.Proofs.Ytcgdkfhfchkdlaa
