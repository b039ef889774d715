/- slices.Grow of nil and slices.Concat of two slices of bytes, walked. -/
import Derived.Test.YtiheeajepnpejaaTapW
import Derived.Lib.AppendZeros
namespace Go.Proofs.Ytiheeajepnpejaa
open Go.RowKit TapM
theorem run_zeros (w : World) (ty : TypeId) (n : Nat) (h0 : 0 < n) (h1 : n ≤ 100000000) : ∃ (G : Nat) (w' : World),
    (Builtin.append_ #[22, 3] ty #[.slice none 0 0, .int .i64 (n : Int)]).run Try.prog w = .ok (.slice (some ⟨w.heap.size, 0, none⟩) n G) w' ∧ n ≤ G ∧ G ≤ 9223372036854775807 ∧ Own w' w.heap.size (.slice (some ⟨w.heap.size, 0, none⟩) 0 G) [] ∧ Below w.heap.size w w' := by
  obtain ⟨i0, hi, hz0, hz1, hz2⟩ := info_parts u8info
  have hG := grownCap_ge w n 0 5
  have hM := grownCap_le_maxLen w n 0 5 (by unfold maxLen; omega)
  refine ⟨grownCap w n 0 5, _, Lib.run_append_nil_zeros (P := Try.prog) w 22 3 ty 5 i0 _ .i64 .i64 Try.underlying22 Try.underlying3 hi hz0 n h0 (by omega) (by omega) (by rw [hz2]; omega), hG, by unfold maxLen at hM; omega, ?_, ?_⟩
  · refine World.ownsRow_made w.drew _ _ (Nat.le_refl _) hM ?_
    rw [Array.size_append, size_zeroCells, size_zeroCells]
    show n * 1 + _ * 1 = _
    omega
  · exact ((Below.refl _ w).drew).alloc (Nat.le_refl _) _
theorem grow_nil (n : Nat) (h1 : n ≤ 100000000) (w : World) :
    Calls Try.prog 52 #[.slice none 0 0, .int .i64 (n : Int)] w fun e w' => ∃ A c, e = .returned (.slice A 0 c) ∧ Own w' w.heap.size (.slice A 0 c) [] ∧ Below w.heap.size w w' := by
  by_cases h0 : 0 < n
  · have hr := Lib.hid (fun w ty => run_zeros w ty n h0 h1)
    have e0 : (0 : Int) < (n : Int) := by omega
    go_enter Try.func52, Try.ntmps52
    go_wp2_with (at_builtin; obtain ⟨G, w1, hrun, hG1, hG2, hown, hb⟩ := hr.out w _; have HR := Lib.hid hrun; clear hrun; refine Lib.wpList_append_run _ rfl _ _ _ _ rfl _ _ rfl rfl _ _ HR.out ?_)
    go_ret
    exact ⟨_, _, rfl, hown, hb⟩
  · obtain rfl : n = 0 := by omega
    go_enter Try.func52, Try.ntmps52
    go_wp2
    go_ret
    exact ⟨none, 0, rfl, Own.nil _ _, Below.refl _ _⟩
set_option maxHeartbeats 800000 in
/-- slices.Concat of two slices that lie in a new block. -/
theorem concat_two (g : Nat) (A B : Option Addr) (n m c d : Nat) (l r : List UInt8) (w : World) (h0 : w.cell? ⟨g, 0, none⟩ = some (.slice A n c)) (h1 : w.cell? ⟨g, 1, none⟩ = some (.slice B m d)) (hl : Bs w A n l) (hr : Bs w B m r) (hn : n ≤ 10000000) (hm : m ≤ 10000000) :
    Calls Try.prog 46 #[.slice (some ⟨g, 0, none⟩) 2 2] w fun e w' => ∃ A2 c2, e = .returned (.slice A2 (n + m) c2) ∧ Own w' w.heap.size (.slice A2 (n + m) c2) (l ++ r) ∧ Below w.heap.size w w' := by
  have hlen := Lib.hid (show (l ++ r).length = n + m by rw [List.length_append, hl.1, hr.1])
  go_enter Try.func46, Try.ntmps46
  go_wp2
  go_loop [3, 5, 11] (fun v3 v5 v11 => (v3 = .int .i64 0 ∧ v11 = .int .i64 0) ∨ (v3 = .int .i64 (n : Nat) ∧ v11 = .int .i64 1) ∨ (v3 = .int .i64 ((n + m : Nat) : Int) ∧ v11 = .int .i64 2)) (fun _ _ v11 => 2 - (intOf v11).toNat)
  case atStart => exact .inl ⟨rfl, rfl⟩
  case round =>
    rcases hrel with ⟨rfl, rfl⟩ | ⟨rfl, rfl⟩ | ⟨rfl, rfl⟩
    · go_wp2
      go_round
      case rel => exact .inr (.inl ⟨rfl, rfl⟩)
      case measure => simp [intOf]
    · go_wp2
      go_round
      case rel => exact .inr (.inr ⟨by go_num, rfl⟩)
      case measure => simp [intOf]
    · go_wp2_with (go_at_call 52; refine (grow_nil (n + m) (by omega) _).mono ?_; rintro e w1 ⟨A1, c1, rfl, hown1, hb1⟩)
      go_loopw [6, 8, 27] (fun v6 v8 v27 wr => ∃ (A6 : Option Addr) (c6 : Nat), Below w.heap.size w wr ∧ ((v6 = .slice A6 0 c6 ∧ v27 = .int .i64 0 ∧ Own wr w.heap.size (.slice A6 0 c6) []) ∨ (v6 = .slice A6 n c6 ∧ v27 = .int .i64 1 ∧ Own wr w.heap.size (.slice A6 n c6) l) ∨ (v6 = .slice A6 (n + m) c6 ∧ v27 = .int .i64 2 ∧ Own wr w.heap.size (.slice A6 (n + m) c6) (l ++ r)))) (fun _ _ v27 _ => 2 - (intOf v27).toNat)
      case atStart => exact ⟨A1, c1, hb1, .inl ⟨rfl, rfl, hown1⟩⟩
      case round =>
        obtain ⟨A6, c6, hbel, ⟨rfl, rfl, hown⟩ | ⟨rfl, rfl, hown⟩ | ⟨rfl, rfl, hown⟩⟩ := hrel
        · have k0 := cell_below hbel h0
          go_wp2_with (at_builtin; apply wpList_append_sl hown (hl.below hbel) l (.tmp 31) (.tmp 32) rfl rfl rfl rfl rfl n hl.1; (case hsz => omega); (case hbase => (have := hbel.size; omega)); intro A2 c2 w2 hown2 hg hg1; have hb2 := below_append hbel hown hg (by have := hbel.size; omega))
          exact ⟨⟨A2, c2, hb2, .inr (.inl ⟨rfl, rfl, hown2⟩)⟩, by simp [intOf]⟩
        · have k1 := cell_below hbel h1
          go_wp2_with (at_builtin; apply wpList_append_sl hown (hr.below hbel) (l ++ r) (.tmp 31) (.tmp 32) rfl rfl rfl rfl rfl (n + m) hlen.out; (case hsz => omega); (case hbase => (have := hbel.size; omega)); intro A2 c2 w2 hown2 hg hg1; have hb2 := below_append hbel hown hg (by have := hbel.size; omega))
          exact ⟨⟨A2, c2, hb2, .inr (.inr ⟨rfl, rfl, hown2⟩)⟩, by simp [intOf]⟩
        · go_wp2
          go_ret
          exact ⟨A6, c6, rfl, hown, hbel⟩
end Go.Proofs.Ytiheeajepnpejaa
