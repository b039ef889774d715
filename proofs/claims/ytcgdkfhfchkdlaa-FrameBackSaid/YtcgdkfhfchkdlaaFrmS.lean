/- The law FrameScans of layer 4, walked: it answers true, whatever bytes. -/
import Derived.Test.YtcgdkfhfchkdlaaScan
namespace Go.Proofs.Ytcgdkfhfchkdlaa
open Go.RowKit FrameM
theorem len_bne (m : Nat) : ((m : Int) != (m : Int)) = false := by simp
set_option maxHeartbeats 1600000 in
theorem frameScans_law (A : Option Addr) (n c : Nat) (l : List UInt8) (w : World) (hl : Bs w A n l) (hc : n ≤ c) :
    Calls Try.prog 14 #[.slice A n c] w fun e w' => e = .returned (.bool true) ∧ Below w.heap.size w w' := by
  by_cases hn : n ≤ 100000
  · obtain ⟨xs, r, hp⟩ := parse_exists l.length l (Nat.le_refl _)
    have H1 := Lib.hid (fun w hl => scan_any A n c l w hl (by omega) hc hp)
    have H2 := Lib.hid (fun w hl => refscan_any A n c l w hl (by omega) hc hp)
    have hnum : xs.length ≤ 1000000 := by
      have h1 := framed_length_le xs
      have h2 := (Parse.here hp (done := xs) (todo := []) (by simp)).1
      rw [hl.1] at h2
      omega
    generalize (framed xs).length = K at *
    clear hp
    go_enter Try.func14, Try.ntmps14
    go_wp2_with (first
      | (go_at_call 40; refine (awake04_any _).mono ?_; rintro e w1 ⟨rfl, hb1⟩)
      | (go_at_call 45; refine (H1.out _ (hl.below hb1)).mono ?_; rintro e w2 ⟨A2, c2, rfl, hrec2, hb2⟩)
      | (go_at_call 46; refine (H2.out _ ((hl.below hb1).below hb2)).mono ?_; rintro e w3 ⟨A3, c3, rfl, hrec3, hb3⟩))
    have hr2 : Recs w3 w1.heap.size (.slice A2 xs.length c2) xs := hrec2.below hb3
    have hb : Below w.heap.size w w3 := chain (chain hb1 hb2) hb3
    clear hrec2
    go_loopw [38] (fun v wr => ∃ k : Nat, k ≤ xs.length ∧ v = .int .i64 k ∧ ∃ m, wr = w3.drewN m) (fun v _ => xs.length - (intOf v).toNat)
    case atStart => exact ⟨0, by omega, rfl, 0, rfl⟩
    case round =>
      obtain ⟨k, hk, rfl, m, rfl⟩ := hrel
      by_cases hkn : k < xs.length
      · obtain ⟨g2, rfl⟩ := hr2.addr (by omega)
        obtain ⟨g3, rfl⟩ := hrec3.addr (by omega)
        obtain ⟨B2, d2, hc2, ho2⟩ := hr2.at_ hkn
        obtain ⟨B3, d3, hc3, ho3⟩ := hrec3.at_ hkn
        have s1 := run_str d2 ho2.bs
        have s2 := run_str d3 ho3.bs
        have i0 : (k : Int) < (xs.length : Int) := by omega
        generalize hS : (⟨xs[k].toArray⟩ : ByteArray) = S at s1 s2
        have b1 : (S.toList != S.toList) = false := by simp
        clear hS
        clear ho2 ho3
        generalize xs[k].length = q at *
        generalize xs.length = N at *
        go_wp2
        go_quiet (fail)
        go_wp2
        exact ⟨⟨k + 1, by omega, by go_num, m + nq, rfl⟩, by simp [intOf]; omega⟩
      · go_wp2
        go_ret
        exact ⟨rfl, below_drewN hb _⟩
  · go_enter Try.func14, Try.ntmps14
    go_wp2_with (first
      | (go_at_call 40; have hb0 := hb1; refine (awake04_any _).mono ?_; rintro e w2 ⟨rfl, hb2⟩)
      | (go_at_call 40; refine (awake04_any _).mono ?_; rintro e w1 ⟨rfl, hb1⟩))
    go_ret
    exact ⟨rfl, chain hb1 hb2⟩
end Go.Proofs.Ytcgdkfhfchkdlaa
