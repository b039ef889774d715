/- The law ReserveGives of layer 19, walked: it answers true, whatever numbers. -/
import Derived.Test.YtcgdkfhfchkdlaaResW
import Derived.Deep.RegionHeld3
namespace Go.Proofs.Ytcgdkfhfchkdlaa
open Go.RowKit
section
variable (l t m : Int) (w : World) (hl0 : -9223372036854775808 ≤ l) (hl1 : l ≤ 9223372036854775807) (hm0 : -9223372036854775808 ≤ m) (hm1 : m ≤ 9223372036854775807)
include hl0 hl1 hm0 hm1
set_option maxHeartbeats 1600000 in
theorem reserveGives_ok (hr : Rt l t) (hn : needs l t m = (0, 0)) :
    Calls Try.prog 11 #[.int .i64 l, .int .i64 t, .int .i64 m] w fun e w' => e = .returned (.bool true) ∧ Below w.heap.size w w' := by
  have HR := fun w => refneeds_any l t m hl0 hl1 hm0 hm1 w
  rw [hn] at HR
  have HR := Lib.hid HR
  have hf := needs_facts l t m
  rw [hn] at hf
  obtain ⟨f1, f2, f3, f4, f5, f6, _⟩ := hf rfl
  clear hf
  have G := Lib.hid (fun w => give_ok hl0 hl1 hm0 hm1 hn w)
  clear hn
  go_enter Try.func11, Try.ntmps11
  go_wp2_with (first
    | (go_at_call 43; refine (G.out _).mono ?_; rintro e w' ⟨rfl, w1, ⟨c1, c2, c3, c4, rfl⟩, rfl⟩)
    | (go_at_call 30; refine (HR.out _).mono ?_; rintro e w' ⟨rfl, rfl⟩)
    | (go_at_call 31; refine (awake19_any _).mono ?_; rintro e w' ⟨rfl, rfl⟩; unfold boxed)
    | (go_at_call 33; refine (refright_yes l t hr _).mono ?_; rintro e w' ⟨rfl, rfl⟩))
  go_region_held3 (fun w' => w'.cell? ⟨w.heap.size, 0, none⟩ = some (.int .i64 l) ∧ w'.cell? ⟨w.heap.size, 1, none⟩ = some (.int .i64 t) ∧ w'.cell? ⟨w.heap.size + 1 + 1 + 1 + 1 + 1 + 1 + 1 + 1, 0, none⟩ = some (.int .i64 t) ∧ w'.cell? ⟨w.heap.size + 1 + 1 + 1 + 1 + 1 + 1 + 1 + 1, 1, none⟩ = some (.int .i64 t)) (simp [go_sem, World.cell?_alloc_past])
    ((go_at_call 44; refine (lost_yes l t hr _).mono ?_; rintro e w' ⟨rfl, d1, d2, d3, rfl⟩))
  go_wp2
  go_ret
  exact ⟨by simp, (by repeat (first | exact Below.refl _ _ | refine Below.drew ?_ | refine Below.al ?_ (Nat.le_refl _) _ | refine Below.setCell ?_ (by simp) _))⟩
set_option maxHeartbeats 1600000 in
theorem reserveGives_more (hr : Rt l t) {n1 : Int} (h1 : 0 < n1) (hn : needs l t m = (n1, 0)) :
    Calls Try.prog 11 #[.int .i64 l, .int .i64 t, .int .i64 m] w fun e w' => e = .returned (.bool true) ∧ Below w.heap.size w w' := by
  have HR := fun w => refneeds_any l t m hl0 hl1 hm0 hm1 w
  rw [hn] at HR
  have HR := Lib.hid HR
  have G := Lib.hid (fun w => give_more hl0 hl1 hm0 hm1 h1 hn w)
  clear hn
  go_enter Try.func11, Try.ntmps11
  go_wp2_with (first
    | (go_at_call 43; refine (G.out _).mono ?_; rintro e w' ⟨rfl, c1, c2, c3, c4, rfl⟩)
    | (go_at_call 30; refine (HR.out _).mono ?_; rintro e w' ⟨rfl, rfl⟩)
    | (go_at_call 31; refine (awake19_any _).mono ?_; rintro e w' ⟨rfl, rfl⟩; unfold boxed)
    | (go_at_call 33; refine (refright_yes l t hr _).mono ?_; rintro e w' ⟨rfl, rfl⟩))
  go_region_held3 (fun w' => w'.cell? ⟨w.heap.size, 0, none⟩ = some (.int .i64 l) ∧ w'.cell? ⟨w.heap.size, 1, none⟩ = some (.int .i64 t) ∧ w'.cell? ⟨w.heap.size + 1 + 1 + 1 + 1 + 1 + 1 + 1 + 1, 0, none⟩ = some (.int .i64 t) ∧ w'.cell? ⟨w.heap.size + 1 + 1 + 1 + 1 + 1 + 1 + 1 + 1, 1, none⟩ = some (.int .i64 t)) (simp [go_sem, World.cell?_alloc_past])
    ((go_at_call 44; refine (lost_yes l t hr _).mono ?_; rintro e w' ⟨rfl, d1, d2, d3, rfl⟩))
  go_wp2
  go_ret
  exact ⟨by simp, (by repeat (first | exact Below.refl _ _ | refine Below.drew ?_ | refine Below.al ?_ (Nat.le_refl _) _ | refine Below.setCell ?_ (by simp) _))⟩
set_option maxHeartbeats 1600000 in
theorem reserveGives_err (hr : Rt l t) {n1 n2 : Int} (h2 : n2 ≠ 0) (hn : needs l t m = (n1, n2)) :
    Calls Try.prog 11 #[.int .i64 l, .int .i64 t, .int .i64 m] w fun e w' => e = .returned (.bool true) ∧ Below w.heap.size w w' := by
  have HR := fun w => refneeds_any l t m hl0 hl1 hm0 hm1 w
  rw [hn] at HR
  have HR := Lib.hid HR
  have h2' : (n2 != 0) = true := by simpa using h2
  have G := Lib.hid (fun w => give_err hl0 hl1 hm0 hm1 h2 (by rw [hn]) w)
  clear hn
  go_enter Try.func11, Try.ntmps11
  go_wp2_with (first
    | (go_at_call 43; refine (G.out _).mono ?_; rintro e w' ⟨rfl, c1, c2, c3, c4, rfl⟩)
    | (go_at_call 30; refine (HR.out _).mono ?_; rintro e w' ⟨rfl, rfl⟩)
    | (go_at_call 31; refine (awake19_any _).mono ?_; rintro e w' ⟨rfl, rfl⟩; unfold boxed)
    | (go_at_call 33; refine (refright_yes l t hr _).mono ?_; rintro e w' ⟨rfl, rfl⟩))
  go_region_held3 (fun w' => w'.cell? ⟨w.heap.size, 0, none⟩ = some (.int .i64 l) ∧ w'.cell? ⟨w.heap.size, 1, none⟩ = some (.int .i64 t) ∧ w'.cell? ⟨w.heap.size + 1 + 1 + 1 + 1 + 1 + 1 + 1 + 1, 0, none⟩ = some (.int .i64 t) ∧ w'.cell? ⟨w.heap.size + 1 + 1 + 1 + 1 + 1 + 1 + 1 + 1, 1, none⟩ = some (.int .i64 t)) (simp [go_sem, World.cell?_alloc_past])
    ((go_at_call 44; refine (lost_yes l t hr _).mono ?_; rintro e w' ⟨rfl, d1, d2, d3, rfl⟩))
  go_wp2
  go_ret
  exact ⟨by simp, (by repeat (first | exact Below.refl _ _ | refine Below.drew ?_ | refine Below.al ?_ (Nat.le_refl _) _ | refine Below.setCell ?_ (by simp) _))⟩
set_option maxHeartbeats 1600000 in
theorem reserveGives_wrong (hr : ¬ Rt l t) {n1 n2 : Int} (h2 : n2 ≠ 0) (hn : needs l t m = (n1, n2)) :
    Calls Try.prog 11 #[.int .i64 l, .int .i64 t, .int .i64 m] w fun e w' => e = .returned (.bool true) ∧ Below w.heap.size w w' := by
  have HR := fun w => refneeds_any l t m hl0 hl1 hm0 hm1 w
  rw [hn] at HR
  have HR := Lib.hid HR
  have h2' : (n2 != 0) = true := by simpa using h2
  have G := Lib.hid (fun w => give_err hl0 hl1 hm0 hm1 h2 (by rw [hn]) w)
  clear hn
  go_enter Try.func11, Try.ntmps11
  go_wp2_with (first
    | (go_at_call 43; refine (G.out _).mono ?_; rintro e w' ⟨rfl, c1, c2, c3, c4, rfl⟩)
    | (go_at_call 30; refine (HR.out _).mono ?_; rintro e w' ⟨rfl, rfl⟩)
    | (go_at_call 31; refine (awake19_any _).mono ?_; rintro e w' ⟨rfl, rfl⟩; unfold boxed)
    | (go_at_call 33; refine (refright_no l t hr _).mono ?_; rintro e w' ⟨rfl, rfl⟩))
  go_region_held3 (fun w' => w'.cell? ⟨w.heap.size, 0, none⟩ = some (.int .i64 l) ∧ w'.cell? ⟨w.heap.size, 1, none⟩ = some (.int .i64 t) ∧ w'.cell? ⟨w.heap.size + 1 + 1 + 1 + 1 + 1 + 1 + 1 + 1, 0, none⟩ = some (.int .i64 0) ∧ w'.cell? ⟨w.heap.size + 1 + 1 + 1 + 1 + 1 + 1 + 1 + 1, 1, none⟩ = some (.int .i64 0)) (simp [go_sem, World.cell?_alloc_past])
    ((go_at_call 44; refine (lost_no l t hr _).mono ?_; rintro e w' ⟨rfl, d1, d2, d3, rfl⟩))
  go_wp2
  go_ret
  exact ⟨by simp, (by repeat (first | exact Below.refl _ _ | refine Below.drew ?_ | refine Below.al ?_ (Nat.le_refl _) _ | refine Below.setCell ?_ (by simp) _))⟩
end
theorem reserveGives_law (l t m : Int) (w : World) (hl0 : -9223372036854775808 ≤ l) (hl1 : l ≤ 9223372036854775807) (_ht0 : -9223372036854775808 ≤ t) (_ht1 : t ≤ 9223372036854775807) (hm0 : -9223372036854775808 ≤ m) (hm1 : m ≤ 9223372036854775807) :
    Calls Try.prog 11 #[.int .i64 l, .int .i64 t, .int .i64 m] w fun e w' => e = .returned (.bool true) ∧ Below w.heap.size w w' := by
  obtain ⟨n, hn⟩ : ∃ n, needs l t m = n := ⟨_, rfl⟩
  obtain ⟨n1, n2⟩ := n
  have hf := needs_facts l t m
  rw [hn] at hf
  by_cases h2 : n2 = 0
  · subst h2
    obtain ⟨f1, f2, f3, f4, f5, f6, f7⟩ := hf rfl
    rcases f7 with ⟨rfl, _⟩ | ⟨h1, _⟩
    · exact reserveGives_ok l t m w hl0 hl1 hm0 hm1 ⟨f1, f2, f3⟩ hn
    · exact reserveGives_more l t m w hl0 hl1 hm0 hm1 ⟨f1, f2, f3⟩ h1 hn
  · by_cases hr : Rt l t
    · exact reserveGives_err l t m w hl0 hl1 hm0 hm1 hr h2 hn
    · exact reserveGives_wrong l t m w hl0 hl1 hm0 hm1 hr h2 hn
end Go.Proofs.Ytcgdkfhfchkdlaa
