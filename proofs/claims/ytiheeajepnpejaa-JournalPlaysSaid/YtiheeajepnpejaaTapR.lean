/- Restart of the package tape, walked. -/
import Derived.Test.YtiheeajepnpejaaTapB
namespace Go.Proofs.Ytiheeajepnpejaa
open Go.RowKit TapM
theorem restart_nil (keep : Int) (y : Int) (w : World) : Calls Try.prog 20 #[.pointer none, .int .i64 keep, .int .u8 y] w fun e w' => e = .returned (.tuple #[]) ∧ w = w' := by
  go_enter Try.func20, Try.ntmps20
  go_wp2
  refine bodyPost_ret (results_none rfl _ _ _) rfl ?_
  exact ⟨rfl, rfl⟩
theorem tmod_or (a : Int) {m : Int} (hm : 0 < m) : a.tmod m = a % m ∨ a.tmod m = a % m - m := by
  rw [Int.tmod_eq_emod]
  split
  · left; omega
  · right; omega
theorem stay_walk {s : TS} (h : s.Ok) (keep : Int) {D : Nat} (hD : (s.b.length : Int) - (s.safe : Int) = D) :
    wrap64 ((s.safe : Int) + (wrap64 (keep.tmod ((D : Int) + 1) + ((D : Int) + 1))).tmod ((D : Int) + 1)) = (s.stay keep : Nat) := by
  have hst := TS.stay_le h keep
  have hbc := h.bc
  have hcc := h.cc
  have hsb := h.sb
  have e1 : ((D : Int) + 1) = (s.b.length : Int) - s.safe + 1 := by omega
  have b1 := Int.tmod_lt_of_pos keep (show (0 : Int) < (D : Int) + 1 by omega)
  have b2 : -((D : Int) + 1) < keep.tmod ((D : Int) + 1) := by
    have := Int.lt_tmod_of_pos keep (show (0 : Int) < (D : Int) + 1 by omega)
    omega
  rw [IntWalk.wrap64_in (keep.tmod ((D : Int) + 1) + ((D : Int) + 1)) (by omega)]
  have e2 : (keep.tmod ((D : Int) + 1) + ((D : Int) + 1)).tmod ((D : Int) + 1) = keep % ((D : Int) + 1) := by
    rw [Int.tmod_eq_emod_of_nonneg (by omega), Int.add_emod_right]
    rcases tmod_or keep (show (0 : Int) < (D : Int) + 1 by omega) with e | e
    · rw [e, Int.emod_emod]
    · rw [e, Int.sub_emod, Int.emod_self, Int.sub_zero, Int.emod_emod, Int.emod_emod]
  rw [e2]
  have b3 := Int.emod_nonneg keep (show (D : Int) + 1 ≠ 0 by omega)
  have b4 := Int.emod_lt_of_pos keep (show (0 : Int) < (D : Int) + 1 by omega)
  rw [IntWalk.wrap64_in _ (by omega)]
  unfold TS.stay
  rw [← e1]
  omega
theorem tc_cells {w : World} {p : Nat} {cap : Int} {sl : Value} {safe fuse : Int} {lost : Bool} (h : Cells w p 57 (tc cap sl safe fuse lost)) :
    w.cell? ⟨p, 0, none⟩ = some (.int .i64 cap) ∧ w.cell? ⟨p, 1, none⟩ = some sl ∧ w.cell? ⟨p, 2, none⟩ = some (.int .i64 safe) ∧ w.cell? ⟨p, 3, none⟩ = some (.int .i64 fuse) ∧ w.cell? ⟨p, 4, none⟩ = some (.bool lost) :=
  ⟨h.cell 0, h.cell 1, h.cell 2, h.cell 3, h.cell 4⟩
theorem left_at {b : List UInt8} {N : Nat} (h : N ≤ b.length) (h0 : 0 < N) : (b.take N)[N - 1]'(by rw [List.length_take]; omega) = b.getD (N - 1) 0 := by
  rw [List.getElem_take]
  simp [List.getD, List.getElem?_eq_getElem (show N - 1 < b.length by omega)]
set_option maxHeartbeats 800000 in
theorem restart_any (p : Nat) (s : TS) (keep : Int) (y : UInt8) (w : World) (h : TapeAt w p s) :
    Calls Try.prog 20 #[.pointer (some ⟨p, 0, none⟩), .int .i64 keep, .int .u8 (y.toNat : Int)] w fun e w' => e = .returned (.tuple #[]) ∧ Turned w w' p (s.restart keep y) := by
  have hok2 := h.ok.restart keep y
  have hst := TS.stay_le h.ok keep
  obtain ⟨A, c, hC, ho⟩ := h.open_
  have hsb := h.ok.sb
  have hbc := h.ok.bc
  have hcc := h.ok.cc
  have h1 : w.cell? ⟨p, 1, none⟩ = some (.slice A s.b.length c) := hC.cell 1
  have h2 : w.cell? ⟨p, 2, none⟩ = some (.int .i64 (s.safe : Int)) := hC.cell 2
  have h3 : w.cell? ⟨p, 3, none⟩ = some (.int .i64 s.fuse) := hC.cell 3
  have h4 : w.cell? ⟨p, 4, none⟩ = some (.bool s.lost) := hC.cell 4
  obtain ⟨D, hD⟩ : ∃ D : Nat, (s.b.length : Int) - (s.safe : Int) = D := ⟨s.b.length - s.safe, by omega⟩
  have HN := Lib.hid (stay_walk h.ok keep hD)
  have hrs : s.restart keep y = ⟨s.cap, s.left (s.stay keep) y, s.stay keep, -1, false⟩ := rfl
  rw [hrs] at hok2 ⊢
  clear hrs
  generalize s.stay keep = N at *
  obtain ⟨hN1, hN2⟩ := hst
  have hll := TS.left_length hN2 y
  have hot := ho.take hN2
  have hlen := ho.room
  have j1 : (0 : Int) ≤ (N : Int) := by omega
  have j2 : (N : Int) ≤ (c : Int) := by omega
  by_cases ht : y ≠ 0 ∧ s.safe < N
  · obtain ⟨hy, hlt⟩ := ht
    have hb0 : ((y.toNat : Int) != 0) = true := by
      rw [bne_iff_ne]
      intro e
      exact hy (UInt8.toNat_inj.1 (by simpa using e))
    have hleft : s.left N y = (s.b.take N).set (N - 1) (s.b.getD (N - 1) 0 ^^^ y) := by unfold TS.left; rw [if_pos hlt]
    obtain ⟨g, hA, hg1, hg2⟩ := ho.addr (by omega)
    subst hA
    go_enter Try.func20, Try.ntmps20
    go_wp2
    go_quiet (fail)
    go_wp2
    go_quiet (fail)
    rw [HN.out]
    go_wp2_with (go_at_call 27; refine (clone_any _ N c (s.b.take N) _ (hot.bs.drewN _) (by omega)).mono ?_; rintro e w2 ⟨A2, c2, rfl, hown2, hb2⟩; obtain ⟨g2, rfl, hg3, hg4⟩ := hown2.addr (by omega); have hC2 := (hC.drewN _).below hb2; obtain ⟨_, k1, k2, k3, k4⟩ := tc_cells hC2; have f1 := hC2.free 1; have f2 := hC2.free 2; have f3 := hC2.free 3; have f4 := hC2.free 4; have k5 := hown2.cell (j := N - 1) (by rw [List.length_take]; omega); rw [left_at hN2 (by omega)] at k5; have f5 := hown2.free (N - 1); have n1 : ¬ g2 = p := (by have := hC.lt; have : w.heap.size ≤ g2 := hg3; omega); have n2 : ¬ p = g2 := (fun e => n1 e.symm))
    go_end0
    have e2 : s.b[N - 1]?.getD 0 = s.b.getD (N - 1) 0 := rfl
    rw [xor_u8, e2]
    generalize s.b.getD (N - 1) 0 ^^^ y = x at *
    have o1 := hown2.grown (only_store (only_refl w2 (some p)) 1 (.slice (some ⟨g2, 0, none⟩) N c2)) hC2 tape_ne
    have o2 := o1.store (N - 1) x
    have C2 := (hC2.store 1 (.slice (some ⟨g2, 0, none⟩) N c2)).far (a := ⟨g2, N - 1, none⟩) n2 (.int .u8 (x.toNat : Int))
    have o5 := o2.grown (only_store (only_store (only_store (only_refl _ (some p)) 2 (.int .i64 (N : Int))) 3 (.int .i64 (-1))) 4 (.bool false)) C2 tape_ne
    have g5 := only_store (only_store (only_store (only_store_new (only_store (only_below (only_drewN (only_refl w (some p)) _) hb2) 1 (.slice (some ⟨g2, 0, none⟩) N c2)) hg3 (N - 1) (.int .u8 (x.toNat : Int))) 2 (.int .i64 (N : Int))) 3 (.int .i64 (-1))) 4 (.bool false)
    refine ⟨rfl, Turned.new (A := some ⟨g2, 0, none⟩) (c := c2) hC.lt ?_ hok2 g5 ?_⟩
    · show Own _ _ (.slice _ (s.left N y).length _) (s.left N y)
      rw [hll, hleft]
      exact o5
    · show Cells _ _ _ (tc _ (.slice _ (s.left N y).length _) _ _ _)
      rw [hll]
      exact ((C2.store 2 (.int .i64 (N : Int))).store 3 (.int .i64 (-1))).store 4 (.bool false)
  · have hleft : s.left N y = s.b.take N := by
      by_cases hy : y = 0
      · rw [hy, TS.left_zero]
      · unfold TS.left; rw [if_neg (fun h => ht ⟨hy, h⟩)]
    by_cases hy : y = 0
    · subst hy
      have hb0 : (((0 : UInt8).toNat : Int) != 0) = false := by decide
      clear ht
      go_enter Try.func20, Try.ntmps20
      go_wp2
      go_quiet (fail)
      go_wp2
      go_quiet (fail)
      rw [HN.out]
      go_wp2_with (go_at_call 27; refine (clone_any _ N c (s.b.take N) _ (hot.bs.drewN _) (by omega)).mono ?_; rintro e w2 ⟨A2, c2, rfl, hown2, hb2⟩; have hC2 := (hC.drewN _).below hb2; obtain ⟨_, k1, k2, k3, k4⟩ := tc_cells hC2; have f1 := hC2.free 1; have f2 := hC2.free 2; have f3 := hC2.free 3; have f4 := hC2.free 4)
      go_end0
      have o5 := hown2.grown (only_store (only_store (only_store (only_store (only_refl _ (some p)) 1 (.slice A2 N c2)) 2 (.int .i64 (N : Int))) 3 (.int .i64 (-1))) 4 (.bool false)) hC2 tape_ne
      have g5 := only_store (only_store (only_store (only_store (only_below (only_drewN (only_refl w (some p)) _) hb2) 1 (.slice A2 N c2)) 2 (.int .i64 (N : Int))) 3 (.int .i64 (-1))) 4 (.bool false)
      refine ⟨rfl, Turned.new (A := A2) (c := c2) hC.lt ?_ hok2 g5 ?_⟩
      · show Own _ _ (.slice _ (s.left N 0).length _) (s.left N 0)
        rw [hll, hleft]
        exact o5
      · show Cells _ _ _ (tc _ (.slice _ (s.left N 0).length _) _ _ _)
        rw [hll]
        exact (((hC2.store 1 (.slice A2 N c2)).store 2 (.int .i64 (N : Int))).store 3 (.int .i64 (-1))).store 4 (.bool false)
    · have hb0 : ((y.toNat : Int) != 0) = true := by
        rw [bne_iff_ne]
        intro e
        exact hy (UInt8.toNat_inj.1 (by simpa using e))
      have hge : ¬ s.safe < N := fun h => ht ⟨hy, h⟩
      clear ht
      go_enter Try.func20, Try.ntmps20
      go_wp2
      go_quiet (fail)
      go_wp2
      go_quiet (fail)
      rw [HN.out]
      go_wp2_with (go_at_call 27; refine (clone_any _ N c (s.b.take N) _ (hot.bs.drewN _) (by omega)).mono ?_; rintro e w2 ⟨A2, c2, rfl, hown2, hb2⟩; have hC2 := (hC.drewN _).below hb2; obtain ⟨_, k1, k2, k3, k4⟩ := tc_cells hC2; have f1 := hC2.free 1; have f2 := hC2.free 2; have f3 := hC2.free 3; have f4 := hC2.free 4)
      go_end0
      have o5 := hown2.grown (only_store (only_store (only_store (only_store (only_refl _ (some p)) 1 (.slice A2 N c2)) 2 (.int .i64 (N : Int))) 3 (.int .i64 (-1))) 4 (.bool false)) hC2 tape_ne
      have g5 := only_store (only_store (only_store (only_store (only_below (only_drewN (only_refl w (some p)) _) hb2) 1 (.slice A2 N c2)) 2 (.int .i64 (N : Int))) 3 (.int .i64 (-1))) 4 (.bool false)
      refine ⟨rfl, Turned.new (A := A2) (c := c2) hC.lt ?_ hok2 g5 ?_⟩
      · show Own _ _ (.slice _ (s.left N y).length _) (s.left N y)
        rw [hll, hleft]
        exact o5
      · show Cells _ _ _ (tc _ (.slice _ (s.left N y).length _) _ _ _)
        rw [hll]
        exact (((hC2.store 1 (.slice A2 N c2)).store 2 (.int .i64 (N : Int))).store 3 (.int .i64 (-1))).store 4 (.bool false)
end Go.Proofs.Ytiheeajepnpejaa
