/- The law ReserveEnough of layer 19, walked: it answers true, whatever numbers. -/
import Derived.Test.YtcgdkfhfchkdlaaResW
namespace Go.Proofs.Ytcgdkfhfchkdlaa
open Go.RowKit
section
variable (l t m : Int) (w : World) (hl0 : -9223372036854775808 ≤ l) (hl1 : l ≤ 9223372036854775807) (hm0 : -9223372036854775808 ≤ m) (hm1 : m ≤ 9223372036854775807)
include hl0 hl1 hm0 hm1
set_option maxHeartbeats 1600000 in
theorem reserveEnough_early {n1 n2 : Int} (h : n2 ≠ 0 ∨ n2 = 0 ∧ n1 = 0) (hn : needs l t m = (n1, n2)) :
    Calls Try.prog 12 #[.int .i64 l, .int .i64 t, .int .i64 m] w fun e w' => e = .returned (.bool true) ∧ Below w.heap.size w w' := by
  have G := fun w => needs_any l t m hl0 hl1 hm0 hm1 w
  rw [hn] at G
  have G := Lib.hid G
  clear hn
  rcases h with h2 | ⟨rfl, rfl⟩
  · have h2' : (n2 != 0) = true := by simpa using h2
    go_enter Try.func12, Try.ntmps12
    go_wp2_with (first
      | (go_at_call 29; refine (G.out _).mono ?_; rintro e w' ⟨rfl, rfl⟩; unfold boxed)
      | (go_at_call 31; refine (awake19_any _).mono ?_; rintro e w' ⟨rfl, rfl⟩; unfold boxed))
    go_ret
    exact ⟨rfl, (by repeat (first | exact Below.refl _ _ | refine Below.drew ?_ | refine Below.al ?_ (Nat.le_refl _) _ | refine Below.setCell ?_ (by simp) _))⟩
  · go_enter Try.func12, Try.ntmps12
    go_wp2_with (first
      | (go_at_call 29; refine (G.out _).mono ?_; rintro e w' ⟨rfl, rfl⟩; unfold boxed)
      | (go_at_call 31; refine (awake19_any _).mono ?_; rintro e w' ⟨rfl, rfl⟩; unfold boxed))
    go_ret
    exact ⟨rfl, (by repeat (first | exact Below.refl _ _ | refine Below.drew ?_ | refine Below.al ?_ (Nat.le_refl _) _ | refine Below.setCell ?_ (by simp) _))⟩
set_option maxHeartbeats 1600000 in
theorem reserveEnough_main (hr : Rt l t) {x : Int} (f4 : 1 ≤ m) (f5 : m ≤ 1000) (h0 : 0 < x) (h1 : t < l + m) (h2 : l + m ≤ x) (h3 : x < l + m + 16) (h4 : x ≤ 1099511627776) (hn : needs l t m = (x, 0)) (hn2 : needs l x m = (0, 0)) :
    Calls Try.prog 12 #[.int .i64 l, .int .i64 t, .int .i64 m] w fun e w' => e = .returned (.bool true) ∧ Below w.heap.size w w' := by
  have G := fun w => needs_any l t m hl0 hl1 hm0 hm1 w
  rw [hn] at G
  have G := Lib.hid G
  have F := Lib.hid (fun w => give_ok (t := x) hl0 hl1 hm0 hm1 hn2 w)
  have hr' := hr
  obtain ⟨r1, r2, r3⟩ := hr'
  have h0' : (x == 0) = false := by simp; omega
  have R := Lib.hid (fun w => reserve_yes l t x hr (by omega) h4 w)
  have hr2 : Rt (l + m) x := ⟨by omega, by omega, h4⟩
  have Q := Lib.hid (fun w => right_yes (l + m) x hr2 w)
  have e1 : (l + m - l == m) = true := by simp; omega
  clear hn hn2
  go_enter Try.func12, Try.ntmps12
  go_wp2_with (first
    | (go_at_call 29; refine (G.out _).mono ?_; rintro e w' ⟨rfl, rfl⟩; unfold boxed)
    | (go_at_call 37; refine (R.out _).mono ?_; rintro e w' ⟨rfl, c1, c2, c3, rfl⟩)
    | (go_at_call 43; refine (F.out _).mono ?_; rintro e w' ⟨rfl, w1, ⟨d1, d2, d3, d4, rfl⟩, rfl⟩)
    | (go_at_call 32; refine (Q.out _).mono ?_; rintro e w' ⟨rfl, rfl⟩)
    | (go_at_call 31; refine (awake19_any _).mono ?_; rintro e w' ⟨rfl, rfl⟩; unfold boxed))
  go_ret
  exact ⟨by simp, (by repeat (first | exact Below.refl _ _ | refine Below.drew ?_ | refine Below.al ?_ (Nat.le_refl _) _ | refine Below.setCell ?_ (by simp) _))⟩
end
theorem reserveEnough_law (l t m : Int) (w : World) (hl0 : -9223372036854775808 ≤ l) (hl1 : l ≤ 9223372036854775807) (_ht0 : -9223372036854775808 ≤ t) (_ht1 : t ≤ 9223372036854775807) (hm0 : -9223372036854775808 ≤ m) (hm1 : m ≤ 9223372036854775807) :
    Calls Try.prog 12 #[.int .i64 l, .int .i64 t, .int .i64 m] w fun e w' => e = .returned (.bool true) ∧ Below w.heap.size w w' := by
  obtain ⟨n, hn⟩ : ∃ n, needs l t m = n := ⟨_, rfl⟩
  obtain ⟨n1, n2⟩ := n
  have hf := needs_facts l t m
  rw [hn] at hf
  by_cases h2 : n2 = 0
  · subst h2
    obtain ⟨f1, f2, f3, f4, f5, f6, f7⟩ := hf rfl
    rcases f7 with ⟨rfl, _⟩ | ⟨h1, h3, h4⟩
    · exact reserveEnough_early l t m w hl0 hl1 hm0 hm1 (.inr ⟨rfl, rfl⟩) hn
    · simp only at h1 h4
      have hn2 : needs l n1 m = (0, 0) := by
        unfold needs
        rw [if_neg (by omega), if_neg (by omega), if_pos (by omega)]
      exact reserveEnough_main l t m w hl0 hl1 hm0 hm1 ⟨f1, f2, f3⟩ f4 f5 h1 h3 (by omega) (by omega) (by omega) hn hn2
  · exact reserveEnough_early l t m w hl0 hl1 hm0 hm1 (.inl h2) hn
end Go.Proofs.Ytcgdkfhfchkdlaa
