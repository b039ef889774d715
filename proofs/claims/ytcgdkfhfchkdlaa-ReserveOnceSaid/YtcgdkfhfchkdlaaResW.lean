/- The walks of the packages reserve and tributaryref19: each function answers what these plain functions say. -/
import Derived.Test.YtcgdkfhfchkdlaaBase
import Derived.Deep.QuietTactic
import Derived.BigQuiet
import Derived.RegionTactic
namespace Go.Proofs.Ytcgdkfhfchkdlaa
open Go.RowKit

/-- Right numbers. -/
def Rt (l t : Int) : Prop := 0 ≤ l ∧ l ≤ t ∧ t ≤ 1099511627776
/-- Blocks that a call has made. -/
def News (w w' : World) (n : Nat) : Prop := w'.heap.size = w.heap.size + n ∧ Below w.heap.size w w'
theorem Below.al {B : Nat} {a w : World} (h : Below B a w) (hB : B ≤ a.heap.size) (o : Obj) : Below B a (w.alloc o) := h.alloc (Nat.le_trans hB h.size) o

theorem right_yes (l t : Int) (h : Rt l t) (w : World) : Calls Try.prog 32 #[.agg #[.int .i64 l, .int .i64 t]] w fun e w' => e = .returned (.bool true) ∧ w' = w.alloc (.cells #[.int .i64 l, .int .i64 t] 23) := by
  obtain ⟨h1, h2, h3⟩ := h
  go_enter Try.func32, Try.ntmps32
  go_wp2
  go_ret
  exact ⟨by simp, rfl⟩
theorem right_no (l t : Int) (h : ¬ Rt l t) (w : World) : Calls Try.prog 32 #[.agg #[.int .i64 l, .int .i64 t]] w fun e w' => e = .returned (.bool false) ∧ w' = w.alloc (.cells #[.int .i64 l, .int .i64 t] 23) := by
  unfold Rt at h
  by_cases h1 : 0 ≤ l
  · by_cases h2 : l ≤ t
    · have h3 : ¬ t ≤ 1099511627776 := fun h3 => h ⟨h1, h2, h3⟩
      go_enter Try.func32, Try.ntmps32
      go_wp2
      go_ret
      exact ⟨by simp, rfl⟩
    · go_enter Try.func32, Try.ntmps32
      go_wp2
      go_ret
      exact ⟨by simp, rfl⟩
  · go_enter Try.func32, Try.ntmps32
    go_wp2
    go_ret
    exact ⟨by simp, rfl⟩
theorem refright_yes (l t : Int) (h : Rt l t) (w : World) : Calls Try.prog 33 #[.int .i64 l, .int .i64 t] w fun e w' => e = .returned (.bool true) ∧ w' = w := by
  obtain ⟨h1, h2, h3⟩ := h
  go_enter Try.func33, Try.ntmps33
  go_wp2
  go_ret
  exact ⟨by simp, rfl⟩
theorem refright_no (l t : Int) (h : ¬ Rt l t) (w : World) : Calls Try.prog 33 #[.int .i64 l, .int .i64 t] w fun e w' => e = .returned (.bool false) ∧ w' = w := by
  unfold Rt at h
  by_cases h1 : 0 ≤ l
  · by_cases h2 : l ≤ t
    · have h3 : ¬ t ≤ 1099511627776 := fun h3 => h ⟨h1, h2, h3⟩
      go_enter Try.func33, Try.ntmps33
      go_wp2
      go_ret
      exact ⟨by simp, rfl⟩
    · go_enter Try.func33, Try.ntmps33
      go_wp2
      go_ret
      exact ⟨by simp, rfl⟩
  · go_enter Try.func33, Try.ntmps33
    go_wp2
    go_ret
    exact ⟨by simp, rfl⟩

/-- Up to where is to be reserved, and which error. -/
def needs (l t m : Int) : Int × Int :=
  if ¬ (0 ≤ l ∧ l ≤ t ∧ t ≤ 1099511627776 ∧ 1 ≤ m ∧ m ≤ 1000) then (0, 1)
  else if 1099511627776 < l + m then (0, 5)
  else if l + m ≤ t then (0, 0)
  else ((l + m + 15) / 16 * 16, 0)
theorem ret2 {k k' : IntKind} {a b c d : Int} (h : a = b) (h' : c = d) : Ending.returned (.tuple #[.int k a, .int k' c]) = Ending.returned (.tuple #[.int k b, .int k' d]) := by rw [h, h']
def boxed (l t : Int) (w : World) : World := (w.alloc (.cells #[.int .i64 l, .int .i64 t] 23)).alloc (.cells #[.int .i64 l, .int .i64 t] 23)

set_option maxHeartbeats 800000 in
theorem needs_any (l t m : Int) (hl0 : -9223372036854775808 ≤ l) (hl1 : l ≤ 9223372036854775807) (hm0 : -9223372036854775808 ≤ m) (hm1 : m ≤ 9223372036854775807) (w : World) :
    Calls Try.prog 29 #[.agg #[.int .i64 l, .int .i64 t], .int .i64 m] w fun e w' => e = .returned (.tuple #[.int .i64 (needs l t m).1, .int .i64 (needs l t m).2]) ∧ w' = boxed l t w := by
  by_cases hr : Rt l t
  · have hr' := hr
    obtain ⟨r1, r2, r3⟩ := hr'
    by_cases hm : 1 ≤ m
    · by_cases hm' : m ≤ 1000
      · by_cases ho : 1099511627776 < l + m
        · have HN : needs l t m = (0, 5) := by unfold needs; rw [if_neg (by omega), if_pos ho]
          rw [HN]
          go_enter Try.func29, Try.ntmps29
          go_wp2_with (go_at_call 32; refine (right_yes l t hr _).mono ?_; rintro e w' ⟨rfl, rfl⟩)
          go_ret2
          exact ⟨rfl, rfl⟩
        · by_cases hi : l + m ≤ t
          · have HN : needs l t m = (0, 0) := by unfold needs; rw [if_neg (by omega), if_neg ho, if_pos hi]
            rw [HN]
            go_enter Try.func29, Try.ntmps29
            go_wp2_with (go_at_call 32; refine (right_yes l t hr _).mono ?_; rintro e w' ⟨rfl, rfl⟩)
            go_ret2
            exact ⟨rfl, rfl⟩
          · have HN : Hid (needs l t m = ((l + m + 15) / 16 * 16, 0)) := by unfold Hid needs; rw [if_neg (by omega), if_neg ho, if_neg hi]
            go_enter Try.func29, Try.ntmps29
            go_wp2_with (go_at_call 32; refine (right_yes l t hr _).mono ?_; rintro e w' ⟨rfl, rfl⟩)
            go_ret2
            rw [HN.out]
            exact ⟨ret2 (by omega) rfl, rfl⟩
      · have HN : needs l t m = (0, 1) := by unfold needs; rw [if_pos (by omega)]
        rw [HN]
        go_enter Try.func29, Try.ntmps29
        go_wp2_with (go_at_call 32; refine (right_yes l t hr _).mono ?_; rintro e w' ⟨rfl, rfl⟩)
        go_ret2
        exact ⟨rfl, rfl⟩
    · have HN : needs l t m = (0, 1) := by unfold needs; rw [if_pos (by omega)]
      rw [HN]
      go_enter Try.func29, Try.ntmps29
      go_wp2_with (go_at_call 32; refine (right_yes l t hr _).mono ?_; rintro e w' ⟨rfl, rfl⟩)
      go_ret2
      exact ⟨rfl, rfl⟩
  · have HN : needs l t m = (0, 1) := by unfold needs; rw [if_pos (fun h => hr ⟨h.1, h.2.1, h.2.2.1⟩)]
    rw [HN]
    go_enter Try.func29, Try.ntmps29
    go_wp2_with (go_at_call 32; refine (right_no l t hr _).mono ?_; rintro e w' ⟨rfl, rfl⟩)
    go_ret2
    exact ⟨rfl, rfl⟩
set_option maxHeartbeats 800000 in
theorem refneeds_any (l t m : Int) (hl0 : -9223372036854775808 ≤ l) (hl1 : l ≤ 9223372036854775807) (hm0 : -9223372036854775808 ≤ m) (hm1 : m ≤ 9223372036854775807) (w : World) :
    Calls Try.prog 30 #[.int .i64 l, .int .i64 t, .int .i64 m] w fun e w' => e = .returned (.tuple #[.int .i64 (needs l t m).1, .int .i64 (needs l t m).2]) ∧ w' = w := by
  by_cases hr : Rt l t
  · have hr' := hr
    obtain ⟨r1, r2, r3⟩ := hr'
    by_cases hm : 1 ≤ m
    · by_cases hm' : m ≤ 1000
      · by_cases ho : 1099511627776 < l + m
        · have HN : needs l t m = (0, 5) := by unfold needs; rw [if_neg (by omega), if_pos ho]
          rw [HN]
          go_enter Try.func30, Try.ntmps30
          go_wp2_with (go_at_call 33; refine (refright_yes l t hr _).mono ?_; rintro e w' ⟨rfl, rfl⟩)
          go_ret2
          exact ⟨rfl, rfl⟩
        · by_cases hi : l + m ≤ t
          · have HN : needs l t m = (0, 0) := by unfold needs; rw [if_neg (by omega), if_neg ho, if_pos hi]
            rw [HN]
            go_enter Try.func30, Try.ntmps30
            go_wp2_with (go_at_call 33; refine (refright_yes l t hr _).mono ?_; rintro e w' ⟨rfl, rfl⟩)
            go_ret2
            exact ⟨rfl, rfl⟩
          · have HN : Hid (needs l t m = ((l + m + 15) / 16 * 16, 0)) := by unfold Hid needs; rw [if_neg (by omega), if_neg ho, if_neg hi]
            go_enter Try.func30, Try.ntmps30
            go_wp2_with (go_at_call 33; refine (refright_yes l t hr _).mono ?_; rintro e w' ⟨rfl, rfl⟩)
            go_loop [9] (fun v => ∃ n : Int, 0 ≤ n ∧ n ≤ (l + m + 15) / 16 * 16 ∧ l + m - 16 < n ∧ n % 16 = 0 ∧ v = .int .i64 n) (fun v => (l + m - intOf v).toNat)
            case atStart => exact ⟨(l + m) / 16 * 16, by omega, by omega, by omega, by omega, rfl⟩
            case round =>
              obtain ⟨n, hn0, hn1, hn2, hn3, rfl⟩ := hrel
              have H3 := Lib.hid hn3
              clear hn3
              by_cases hc : n < l + m
              · go_wp2
                exact ⟨⟨n + 16, by omega, by have := H3.out; omega, by omega, by have := H3.out; omega, rfl⟩, by simp [intOf]; omega⟩
              · have hmax : n ≤ 1099511627776 := by omega
                go_wp2
                go_ret2
                rw [HN.out]
                exact ⟨ret2 (by have := H3.out; omega) rfl, rfl⟩
      · have HN : needs l t m = (0, 1) := by unfold needs; rw [if_pos (by omega)]
        rw [HN]
        go_enter Try.func30, Try.ntmps30
        go_wp2_with (go_at_call 33; refine (refright_yes l t hr _).mono ?_; rintro e w' ⟨rfl, rfl⟩)
        go_ret2
        exact ⟨rfl, rfl⟩
    · have HN : needs l t m = (0, 1) := by unfold needs; rw [if_pos (by omega)]
      rw [HN]
      go_enter Try.func30, Try.ntmps30
      go_wp2_with (go_at_call 33; refine (refright_yes l t hr _).mono ?_; rintro e w' ⟨rfl, rfl⟩)
      go_ret2
      exact ⟨rfl, rfl⟩
  · have HN : needs l t m = (0, 1) := by unfold needs; rw [if_pos (fun h => hr ⟨h.1, h.2.1, h.2.2.1⟩)]
    rw [HN]
    go_enter Try.func30, Try.ntmps30
    go_wp2_with (go_at_call 33; refine (refright_no l t hr _).mono ?_; rintro e w' ⟨rfl, rfl⟩)
    go_ret2
    exact ⟨rfl, rfl⟩
theorem needs3 : needs 0 0 3 = (16, 0) := by decide
theorem awake19_any (w : World) : Calls Try.prog 31 #[] w fun e w' => e = .returned (.bool true) ∧ w' = boxed 0 0 w := by
  have hc := needs_any 0 0 3 (by decide) (by decide) (by decide) (by decide) w
  rw [needs3] at hc
  have HC := Lib.hid hc
  clear hc
  go_enter Try.func31, Try.ntmps31
  go_wp2_with (go_at_call 29; refine HC.out.mono ?_; rintro e w' ⟨rfl, rfl⟩)
  go_ret
  exact ⟨rfl, rfl⟩
theorem reserve_yes (l t x : Int) (h : Rt l t) (h1 : t ≤ x) (h2 : x ≤ 1099511627776) (w : World) :
    Calls Try.prog 37 #[.agg #[.int .i64 l, .int .i64 t], .int .i64 x] w fun e w' => e = .returned (.tuple #[.agg #[.int .i64 l, .int .i64 x], .int .i64 0]) ∧
      ∃ c1 c2 c3 : Array Value, w' = ((w.alloc (.cells c1 23)).alloc (.cells c2 23)).alloc (.cells c3 23) := by
  have d1 : decide (x < t) = false := by simp; omega
  have d2 : decide (1099511627776 < x) = false := by simp; omega
  go_enter Try.func37, Try.ntmps37
  go_wp2_with (go_at_call 32; refine (right_yes l t h _).mono ?_; rintro e w' ⟨rfl, rfl⟩)
  exact bodyPost_ret (v := .tuple #[.agg #[.int .i64 l, .int .i64 x], .int .i64 0]) (by simp [results, Try.results37, go_sem]) rfl ⟨rfl, _, _, _, rfl⟩
theorem reserve_no (l t x : Int) (h : ¬ (Rt l t ∧ t ≤ x ∧ x ≤ 1099511627776)) (w : World) :
    Calls Try.prog 37 #[.agg #[.int .i64 l, .int .i64 t], .int .i64 x] w fun e w' => e = .returned (.tuple #[.agg #[.int .i64 0, .int .i64 0], .int .i64 1]) ∧
      ∃ c1 c2 c3 : Array Value, w' = ((w.alloc (.cells c1 23)).alloc (.cells c2 23)).alloc (.cells c3 23) := by
  by_cases hr : Rt l t
  · by_cases h1 : t ≤ x
    · have h2 : ¬ x ≤ 1099511627776 := fun h2 => h ⟨hr, h1, h2⟩
      have d1 : decide (x < t) = false := by simp; omega
      have d2 : decide (1099511627776 < x) = true := by simp; omega
      go_enter Try.func37, Try.ntmps37
      go_wp2_with (go_at_call 32; refine (right_yes l t hr _).mono ?_; rintro e w' ⟨rfl, rfl⟩)
      exact bodyPost_ret (v := .tuple #[.agg #[.int .i64 0, .int .i64 0], .int .i64 1]) (by simp [results, Try.results37, go_sem]) rfl ⟨rfl, _, _, _, rfl⟩
    · have d1 : decide (x < t) = true := by simp; omega
      go_enter Try.func37, Try.ntmps37
      go_wp2_with (go_at_call 32; refine (right_yes l t hr _).mono ?_; rintro e w' ⟨rfl, rfl⟩)
      exact bodyPost_ret (v := .tuple #[.agg #[.int .i64 0, .int .i64 0], .int .i64 1]) (by simp [results, Try.results37, go_sem]) rfl ⟨rfl, _, _, _, rfl⟩
  · go_enter Try.func37, Try.ntmps37
    go_wp2_with (go_at_call 32; refine (right_no l t hr _).mono ?_; rintro e w' ⟨rfl, rfl⟩)
    exact bodyPost_ret (v := .tuple #[.agg #[.int .i64 0, .int .i64 0], .int .i64 1]) (by simp [results, Try.results37, go_sem]) rfl ⟨rfl, _, _, _, rfl⟩
theorem lost_yes (l t : Int) (h : Rt l t) (w : World) :
    Calls Try.prog 44 #[.agg #[.int .i64 l, .int .i64 t]] w fun e w' => e = .returned (.agg #[.int .i64 t, .int .i64 t]) ∧
      ∃ c1 c2 c3 : Array Value, w' = ((w.alloc (.cells c1 23)).alloc (.cells c2 23)).alloc (.cells c3 23) := by
  go_enter Try.func44, Try.ntmps44
  go_wp2_with (go_at_call 32; refine (right_yes l t h _).mono ?_; rintro e w' ⟨rfl, rfl⟩)
  exact bodyPost_ret (v := .agg #[.int .i64 t, .int .i64 t]) (by simp [results, Try.results44, go_sem]) rfl ⟨rfl, _, _, _, rfl⟩
theorem lost_no (l t : Int) (h : ¬ Rt l t) (w : World) :
    Calls Try.prog 44 #[.agg #[.int .i64 l, .int .i64 t]] w fun e w' => e = .returned (.agg #[.int .i64 0, .int .i64 0]) ∧
      ∃ c1 c2 c3 : Array Value, w' = ((w.alloc (.cells c1 23)).alloc (.cells c2 23)).alloc (.cells c3 23) := by
  go_enter Try.func44, Try.ntmps44
  go_wp2_with (go_at_call 32; refine (right_no l t h _).mono ?_; rintro e w' ⟨rfl, rfl⟩)
  exact bodyPost_ret (v := .agg #[.int .i64 0, .int .i64 0]) (by simp [results, Try.results44, go_sem]) rfl ⟨rfl, _, _, _, rfl⟩
theorem needs_facts (l t m : Int) : (needs l t m).2 = 0 → 0 ≤ l ∧ l ≤ t ∧ t ≤ 1099511627776 ∧ 1 ≤ m ∧ m ≤ 1000 ∧ l + m ≤ 1099511627776 ∧ ((needs l t m).1 = 0 ∧ l + m ≤ t ∨ 0 < (needs l t m).1 ∧ t < l + m ∧ (needs l t m).1 = (l + m + 15) / 16 * 16) := by
  unfold needs
  split
  · intro h; cases h
  · split
    · intro h; cases h
    · split
      · intro _; refine ⟨by omega, by omega, by omega, by omega, by omega, by omega, .inl ⟨rfl, by omega⟩⟩
      · intro _; refine ⟨by omega, by omega, by omega, by omega, by omega, by omega, .inr ⟨by simp; omega, by omega, rfl⟩⟩
/-- Four blocks more. -/
def Four (w w' : World) : Prop := ∃ c1 c2 c3 c4 : Array Value, w' = (((w.alloc (.cells c1 23)).alloc (.cells c2 23)).alloc (.cells c3 23)).alloc (.cells c4 23)
section
variable {l t m : Int} (hl0 : -9223372036854775808 ≤ l) (hl1 : l ≤ 9223372036854775807) (hm0 : -9223372036854775808 ≤ m) (hm1 : m ≤ 9223372036854775807)
include hl0 hl1 hm0 hm1
set_option maxHeartbeats 800000 in
theorem give_err {n2 : Int} (h2 : n2 ≠ 0) (hn : (needs l t m).2 = n2) (w : World) :
    Calls Try.prog 43 #[.agg #[.int .i64 l, .int .i64 t], .int .i64 m] w fun e w' => e = .returned (.tuple #[.int .i64 0, .agg #[.int .i64 0, .int .i64 0], .int .i64 n2]) ∧ Four w w' := by
  have HC := fun w => Lib.hid (needs_any l t m hl0 hl1 hm0 hm1 w)
  rw [hn] at HC
  clear hn
  generalize (needs l t m).1 = n1 at HC
  have h2' : (n2 != 0) = true := by simpa using h2
  go_enter Try.func43, Try.ntmps43
  go_wp2_with (go_at_call 29; refine (HC _).out.mono ?_; rintro e w' ⟨rfl, rfl⟩; unfold boxed)
  exact bodyPost_ret (v := .tuple #[.int .i64 0, .agg #[.int .i64 0, .int .i64 0], .int .i64 n2]) (by simp [results, Try.results43, go_sem]) rfl ⟨rfl, _, _, _, _, rfl⟩
set_option maxHeartbeats 800000 in
theorem give_more {n1 : Int} (h1 : 0 < n1) (hn : needs l t m = (n1, 0)) (w : World) :
    Calls Try.prog 43 #[.agg #[.int .i64 l, .int .i64 t], .int .i64 m] w fun e w' => e = .returned (.tuple #[.int .i64 0, .agg #[.int .i64 0, .int .i64 0], .int .i64 7]) ∧ Four w w' := by
  have HC := fun w => Lib.hid (needs_any l t m hl0 hl1 hm0 hm1 w)
  rw [hn] at HC
  clear hn
  go_enter Try.func43, Try.ntmps43
  go_wp2_with (go_at_call 29; refine (HC _).out.mono ?_; rintro e w' ⟨rfl, rfl⟩; unfold boxed)
  exact bodyPost_ret (v := .tuple #[.int .i64 0, .agg #[.int .i64 0, .int .i64 0], .int .i64 7]) (by simp [results, Try.results43, go_sem]) rfl ⟨rfl, _, _, _, _, rfl⟩
set_option maxHeartbeats 800000 in
theorem give_ok (hn : needs l t m = (0, 0)) (w : World) :
    Calls Try.prog 43 #[.agg #[.int .i64 l, .int .i64 t], .int .i64 m] w fun e w' => e = .returned (.tuple #[.int .i64 (l + 1), .agg #[.int .i64 (l + m), .int .i64 t], .int .i64 0]) ∧ ∃ w1, Four w w1 ∧ w' = w1.drew := by
  have HC := fun w => Lib.hid (needs_any l t m hl0 hl1 hm0 hm1 w)
  have hf := needs_facts l t m
  rw [hn] at HC hf
  obtain ⟨f1, f2, f3, f4, f5, f6, _⟩ := hf rfl
  clear hn hf
  go_enter Try.func43, Try.ntmps43
  go_wp2_with (go_at_call 29; refine (HC _).out.mono ?_; rintro e w' ⟨rfl, rfl⟩; unfold boxed)
  go_region
  go_wp2
  exact bodyPost_ret (v := .tuple #[.int .i64 (l + 1), .agg #[.int .i64 (l + m), .int .i64 t], .int .i64 0]) (by simp [results, Try.results43, go_sem]) rfl ⟨rfl, _, ⟨_, _, _, _, rfl⟩, rfl⟩
end
end Go.Proofs.Ytcgdkfhfchkdlaa
