/- The laws of layer 19 but ReserveOnce, walked: each answers true, whatever numbers. -/
import Derived.Test.YtcgdkfhfchkdlaaResW
import Derived.Deep.RegionHeld3
namespace Go.Proofs.Ytcgdkfhfchkdlaa
open Go.RowKit
set_option maxHeartbeats 800000 in
theorem reserveNeeds_law (l t m : Int) (w : World) (hl0 : -9223372036854775808 ≤ l) (hl1 : l ≤ 9223372036854775807) (_ht0 : -9223372036854775808 ≤ t) (_ht1 : t ≤ 9223372036854775807) (hm0 : -9223372036854775808 ≤ m) (hm1 : m ≤ 9223372036854775807) :
    Calls Try.prog 3 #[.int .i64 l, .int .i64 t, .int .i64 m] w fun e w' => e = .returned (.bool true) ∧ Below w.heap.size w w' := by
  by_cases hr : Rt l t
  · go_enter Try.func3, Try.ntmps3
    go_wp2_with (first
      | (go_at_call 29; refine (needs_any l t m hl0 hl1 hm0 hm1 _).mono ?_; rintro e w' ⟨rfl, rfl⟩; unfold boxed)
      | (go_at_call 30; refine (refneeds_any l t m hl0 hl1 hm0 hm1 _).mono ?_; rintro e w' ⟨rfl, rfl⟩)
      | (go_at_call 31; refine (awake19_any _).mono ?_; rintro e w' ⟨rfl, rfl⟩; unfold boxed)
      | (go_at_call 32; refine (right_yes l t hr _).mono ?_; rintro e w' ⟨rfl, rfl⟩)
      | (go_at_call 33; refine (refright_yes l t hr _).mono ?_; rintro e w' ⟨rfl, rfl⟩))
    go_ret
    exact ⟨by simp, (by repeat (first | exact Below.refl _ _ | refine Below.drew ?_ | refine Below.al ?_ (Nat.le_refl _) _ | refine Below.setCell ?_ (by simp) _))⟩
  · go_enter Try.func3, Try.ntmps3
    go_wp2_with (first
      | (go_at_call 29; refine (needs_any l t m hl0 hl1 hm0 hm1 _).mono ?_; rintro e w' ⟨rfl, rfl⟩; unfold boxed)
      | (go_at_call 30; refine (refneeds_any l t m hl0 hl1 hm0 hm1 _).mono ?_; rintro e w' ⟨rfl, rfl⟩)
      | (go_at_call 31; refine (awake19_any _).mono ?_; rintro e w' ⟨rfl, rfl⟩; unfold boxed)
      | (go_at_call 32; refine (right_no l t hr _).mono ?_; rintro e w' ⟨rfl, rfl⟩)
      | (go_at_call 33; refine (refright_no l t hr _).mono ?_; rintro e w' ⟨rfl, rfl⟩))
    go_ret
    exact ⟨by simp, (by repeat (first | exact Below.refl _ _ | refine Below.drew ?_ | refine Below.al ?_ (Nat.le_refl _) _ | refine Below.setCell ?_ (by simp) _))⟩
set_option maxHeartbeats 800000 in
theorem reserveTo_law (l t x : Int) (w : World) (_hl0 : -9223372036854775808 ≤ l) (_hl1 : l ≤ 9223372036854775807) (_ht0 : -9223372036854775808 ≤ t) (_ht1 : t ≤ 9223372036854775807) (_hm0 : -9223372036854775808 ≤ x) (_hm1 : x ≤ 9223372036854775807) :
    Calls Try.prog 8 #[.int .i64 l, .int .i64 t, .int .i64 x] w fun e w' => e = .returned (.bool true) ∧ Below w.heap.size w w' := by
  by_cases hr : Rt l t
  · by_cases h1 : t ≤ x
    · by_cases h2 : x ≤ 1099511627776
      · have d1 : decide (x < t) = false := by simp; omega
        have d2 : decide (1099511627776 < x) = false := by simp; omega
        go_enter Try.func8, Try.ntmps8
        go_wp2_with (first
          | (go_at_call 37; refine (reserve_yes l t x hr h1 h2 _).mono ?_; rintro e w' ⟨rfl, c1, c2, c3, rfl⟩)
          | (go_at_call 31; refine (awake19_any _).mono ?_; rintro e w' ⟨rfl, rfl⟩; unfold boxed)
          | (go_at_call 33; refine (refright_yes l t hr _).mono ?_; rintro e w' ⟨rfl, rfl⟩))
        go_ret
        exact ⟨by simp, (by repeat (first | exact Below.refl _ _ | refine Below.drew ?_ | refine Below.al ?_ (Nat.le_refl _) _ | refine Below.setCell ?_ (by simp) _))⟩
      · have hn : ¬ (Rt l t ∧ t ≤ x ∧ x ≤ 1099511627776) := fun h => h2 h.2.2
        have d1 : decide (x < t) = false := by simp; omega
        have d2 : decide (1099511627776 < x) = true := by simp; omega
        go_enter Try.func8, Try.ntmps8
        go_wp2_with (first
          | (go_at_call 37; refine (reserve_no l t x hn _).mono ?_; rintro e w' ⟨rfl, c1, c2, c3, rfl⟩)
          | (go_at_call 31; refine (awake19_any _).mono ?_; rintro e w' ⟨rfl, rfl⟩; unfold boxed)
          | (go_at_call 33; refine (refright_yes l t hr _).mono ?_; rintro e w' ⟨rfl, rfl⟩))
        go_ret
        exact ⟨by simp, (by repeat (first | exact Below.refl _ _ | refine Below.drew ?_ | refine Below.al ?_ (Nat.le_refl _) _ | refine Below.setCell ?_ (by simp) _))⟩
    · have hn : ¬ (Rt l t ∧ t ≤ x ∧ x ≤ 1099511627776) := fun h => h1 h.2.1
      have d1 : decide (x < t) = true := by simp; omega
      go_enter Try.func8, Try.ntmps8
      go_wp2_with (first
        | (go_at_call 37; refine (reserve_no l t x hn _).mono ?_; rintro e w' ⟨rfl, c1, c2, c3, rfl⟩)
        | (go_at_call 31; refine (awake19_any _).mono ?_; rintro e w' ⟨rfl, rfl⟩; unfold boxed)
        | (go_at_call 33; refine (refright_yes l t hr _).mono ?_; rintro e w' ⟨rfl, rfl⟩))
      go_ret
      exact ⟨by simp, (by repeat (first | exact Below.refl _ _ | refine Below.drew ?_ | refine Below.al ?_ (Nat.le_refl _) _ | refine Below.setCell ?_ (by simp) _))⟩
  · have hn : ¬ (Rt l t ∧ t ≤ x ∧ x ≤ 1099511627776) := fun h => hr h.1
    go_enter Try.func8, Try.ntmps8
    go_wp2_with (first
      | (go_at_call 37; refine (reserve_no l t x hn _).mono ?_; rintro e w' ⟨rfl, c1, c2, c3, rfl⟩)
      | (go_at_call 31; refine (awake19_any _).mono ?_; rintro e w' ⟨rfl, rfl⟩; unfold boxed)
      | (go_at_call 33; refine (refright_no l t hr _).mono ?_; rintro e w' ⟨rfl, rfl⟩))
    go_ret
    exact ⟨by simp, (by repeat (first | exact Below.refl _ _ | refine Below.drew ?_ | refine Below.al ?_ (Nat.le_refl _) _ | refine Below.setCell ?_ (by simp) _))⟩
end Go.Proofs.Ytcgdkfhfchkdlaa
