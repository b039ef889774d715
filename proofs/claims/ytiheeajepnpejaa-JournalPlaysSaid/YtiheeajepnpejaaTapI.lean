/- The reference's tape: Restart, walked. -/
import Derived.Test.YtiheeajepnpejaaTapH
namespace Go.Proofs.Ytiheeajepnpejaa
open Go.RowKit TapM
/-- An empty literal behind two boxes. -/
theorem own_lit2 (w : World) (X Y : Obj) : Own (((w.alloc X).alloc Y).alloc (.cells #[] 5)) (w.heap.size + 2) (.slice (some ⟨w.heap.size + 1 + 1, 0, none⟩) 0 0) [] := by
  have h := Own.lit ((w.alloc X).alloc Y) [] (Nat.le_refl _) (by decide)
  rw [show ((w.alloc X).alloc Y).heap.size = w.heap.size + 1 + 1 from by simp] at h
  exact h
/-- What Restart of the reference answers. -/
def RefIs (w : World) (B : Nat) (s : TS) (e : Ending) (w' : World) : Prop :=
  ∃ A2 c2, e = .returned (refv s A2 c2) ∧ Own w' B (.slice A2 s.b.length c2) s.b ∧ Below w.heap.size w w' ∧ ∀ g, (Value.slice A2 s.b.length c2).ownBlock = some g → w.heap.size ≤ g
theorem stay_ref {s : TS} (h : s.Ok) (keep : Int) {D : Nat} (hD : (s.b.length : Int) - (s.safe : Int) = D) :
    ∃ K : Nat, s.safe + K = s.stay keep ∧ ((keep.tmod ((D : Int) + 1) < 0 ∧ keep.tmod ((D : Int) + 1) + (D : Int) + 1 = K) ∨ (¬ keep.tmod ((D : Int) + 1) < 0 ∧ keep.tmod ((D : Int) + 1) = K)) ∧
      -((D : Int) + 1) < keep.tmod ((D : Int) + 1) ∧ keep.tmod ((D : Int) + 1) < (D : Int) + 1 := by
  have hsb := h.sb
  have e1 : ((D : Int) + 1) = (s.b.length : Int) - s.safe + 1 := by omega
  have b3 := Int.emod_nonneg keep (show (D : Int) + 1 ≠ 0 by omega)
  have b4 := Int.emod_lt_of_pos keep (show (0 : Int) < (D : Int) + 1 by omega)
  have b1 := Int.tmod_lt_of_pos keep (show (0 : Int) < (D : Int) + 1 by omega)
  have b2 := Int.lt_tmod_of_pos keep (show (0 : Int) < (D : Int) + 1 by omega)
  refine ⟨(keep % ((D : Int) + 1)).toNat, ?_, ?_, by omega, b1⟩
  · unfold TS.stay
    rw [← e1]
  · rcases tmod_or keep (show (0 : Int) < (D : Int) + 1 by omega) with e | e
    · right; omega
    · left; omega
set_option maxRecDepth 100000 in
set_option maxHeartbeats 1600000 in
theorem refrestart_any (B : Nat) (s : TS) (A : Option Addr) (c : Nat) (keep : Int) (y : UInt8) (w : World) (hok : s.Ok) (ho : Own w B (.slice A s.b.length c) s.b) (hB : B ≤ w.heap.size) :
    Calls Try.prog 21 #[.agg #[.int .i64 (s.cap : Int), .slice A s.b.length c, .int .i64 (s.safe : Int), .int .i64 s.fuse, .bool s.lost], .int .i64 keep, .int .u8 (y.toNat : Int)] w (RefIs w B (s.restart keep y)) := by
  have hst := TS.stay_le hok keep
  have hsb := hok.sb
  have hbc := hok.bc
  have hcc := hok.cc
  obtain ⟨D, hD⟩ : ∃ D : Nat, (s.b.length : Int) - (s.safe : Int) = D := ⟨s.b.length - s.safe, by omega⟩
  obtain ⟨K, hK, hcase, b1, b2⟩ := stay_ref hok keep hD
  have hrs : s.restart keep y = ⟨s.cap, s.left (s.stay keep) y, s.stay keep, -1, false⟩ := rfl
  rw [hrs]
  clear hrs hok
  generalize s.stay keep = N at *
  obtain ⟨hN1, hN2⟩ := hst
  have hll := TS.left_length hN2 y
  have hot := ho.take hN2
  have hlen := ho.room
  have eN : (s.safe : Int) + (K : Int) = (N : Int) := by omega
  have htl : (s.b.take N).length = N := by rw [List.length_take]; omega
  have HTL := Lib.hid htl
  clear hK htl
  rcases hcase with ⟨hneg, eK⟩ | ⟨hneg, eK⟩
  · by_cases hK0 : 0 < K
    · have hleft : s.left N y = (s.b.take N).set (N - 1) (s.b.getD (N - 1) 0 ^^^ y) := by unfold TS.left; rw [if_pos (by omega)]
      have HLe := Lib.hid hleft
      clear hleft
      go_enter Try.func21, Try.ntmps21
      go_wp2_with (at_builtin; apply wpList_append_sl (own_lit2 w _ _) (((hot.bs.alloc _).alloc _).alloc _) (s.b.take N) (.tmp 26) (.tmp 33) rfl rfl rfl rfl rfl N HTL.out; (case hsz => omega); (case hbase => simp); intro A2 c2 w2 hown2 hg2 hg2'; have hb2 := below_append ((Below.refl (w.heap.size + 2) _).alloc (by simp) _) (own_lit2 w _ _) hg2 (by simp); obtain ⟨hA, hR, hz1, hbw⟩ := two_boxes (hb2.mono (Nat.le_of_eq (by simp))); obtain ⟨c0, c1, c2', c3, c4, f0⟩ := five hA; obtain ⟨d0, d1, d2, d3, d4, f1⟩ := five hR; clear hg2 hg2' hb2 hA hR; obtain ⟨g2, rfl, hg3, hg4⟩ := hown2.addr (by omega); have k5 := hown2.cell (j := N - 1) (by rw [HTL.out]; omega); rw [left_at hN2 (by omega)] at k5; have f5 := hown2.free (N - 1); have n1 : ¬ g2 = w.heap.size + 1 := (by omega); have n2 : ¬ w.heap.size + 1 = g2 := (by omega); have n3 : ¬ g2 = w.heap.size := (by omega); have n4 : ¬ w.heap.size = g2 := (by omega))
      have e2 : s.b[N - 1]?.getD 0 = s.b.getD (N - 1) 0 := rfl
      rw [xor_u8, e2]
      have HE := HLe.out
      clear HLe e2
      generalize s.b.getD (N - 1) 0 ^^^ y = x at *
      have HLe := Lib.hid HE
      clear HE
      have o1 := hown2.store (N - 1) x
      refine bodyPost_ret (v := .agg #[.int .i64 (s.cap : Int), .slice (some ⟨g2, 0, none⟩) N c2, .int .i64 (N : Int), .int .i64 (-1), .bool false]) (by simp [results, Try.results21, go_sem, *]) rfl ?_
      have HE := HLe.out
      refine ⟨some ⟨g2, 0, none⟩, c2, ?_, ?_, ?_, fun g hg => ?_⟩
      · show _ = Ending.returned (.agg #[_, .slice _ (s.left N y).length _, _, _, _])
        rw [hll]
      · show Own _ _ (.slice _ (s.left N y).length _) (s.left N y)
        rw [hll, HE]
        refine Own.mono (base := w.heap.size + 2) ?_ (by omega)
        (repeat (first | (with_reducible refine own_set ?_ (by omega) _) | with_reducible exact o1))
      · (repeat (first | (with_reducible refine bl_set ?_ (by first | (simp; done) | (simp; omega) | omega) _) | (with_reducible refine bl_alloc ?_ _) | with_reducible exact hbw))
      · simp [Value.ownBlock] at hg
        omega
    · omega
  · by_cases hK0 : 0 < K
    · have hleft : s.left N y = (s.b.take N).set (N - 1) (s.b.getD (N - 1) 0 ^^^ y) := by unfold TS.left; rw [if_pos (by omega)]
      have HLe := Lib.hid hleft
      clear hleft
      go_enter Try.func21, Try.ntmps21
      go_wp2_with (at_builtin; apply wpList_append_sl (own_lit2 w _ _) (((hot.bs.alloc _).alloc _).alloc _) (s.b.take N) (.tmp 26) (.tmp 33) rfl rfl rfl rfl rfl N HTL.out; (case hsz => omega); (case hbase => simp); intro A2 c2 w2 hown2 hg2 hg2'; have hb2 := below_append ((Below.refl (w.heap.size + 2) _).alloc (by simp) _) (own_lit2 w _ _) hg2 (by simp); obtain ⟨hA, hR, hz1, hbw⟩ := two_boxes (hb2.mono (Nat.le_of_eq (by simp))); obtain ⟨c0, c1, c2', c3, c4, f0⟩ := five hA; obtain ⟨d0, d1, d2, d3, d4, f1⟩ := five hR; clear hg2 hg2' hb2 hA hR; obtain ⟨g2, rfl, hg3, hg4⟩ := hown2.addr (by omega); have k5 := hown2.cell (j := N - 1) (by rw [HTL.out]; omega); rw [left_at hN2 (by omega)] at k5; have f5 := hown2.free (N - 1); have n1 : ¬ g2 = w.heap.size + 1 := (by omega); have n2 : ¬ w.heap.size + 1 = g2 := (by omega); have n3 : ¬ g2 = w.heap.size := (by omega); have n4 : ¬ w.heap.size = g2 := (by omega))
      have e2 : s.b[N - 1]?.getD 0 = s.b.getD (N - 1) 0 := rfl
      rw [xor_u8, e2]
      have HE := HLe.out
      clear HLe e2
      generalize s.b.getD (N - 1) 0 ^^^ y = x at *
      have HLe := Lib.hid HE
      clear HE
      have o1 := hown2.store (N - 1) x
      refine bodyPost_ret (v := .agg #[.int .i64 (s.cap : Int), .slice (some ⟨g2, 0, none⟩) N c2, .int .i64 (N : Int), .int .i64 (-1), .bool false]) (by simp [results, Try.results21, go_sem, *]) rfl ?_
      have HE := HLe.out
      refine ⟨some ⟨g2, 0, none⟩, c2, ?_, ?_, ?_, fun g hg => ?_⟩
      · show _ = Ending.returned (.agg #[_, .slice _ (s.left N y).length _, _, _, _])
        rw [hll]
      · show Own _ _ (.slice _ (s.left N y).length _) (s.left N y)
        rw [hll, HE]
        refine Own.mono (base := w.heap.size + 2) ?_ (by omega)
        (repeat (first | (with_reducible refine own_set ?_ (by omega) _) | with_reducible exact o1))
      · (repeat (first | (with_reducible refine bl_set ?_ (by first | (simp; done) | (simp; omega) | omega) _) | (with_reducible refine bl_alloc ?_ _) | with_reducible exact hbw))
      · simp [Value.ownBlock] at hg
        omega
    · have eK0 : keep.tmod ((D : Int) + 1) = 0 := by omega
      obtain rfl : N = s.safe := by omega
      clear eK eN hK0
      have hleft : s.left s.safe y = s.b.take s.safe := by unfold TS.left; rw [if_neg (by omega)]
      have HLe := Lib.hid hleft
      clear hleft
      go_enter Try.func21, Try.ntmps21
      go_wp2_with (at_builtin; apply wpList_append_sl (own_lit2 w _ _) (((hot.bs.alloc _).alloc _).alloc _) (s.b.take s.safe) (.tmp 26) (.tmp 33) rfl rfl rfl rfl rfl s.safe HTL.out; (case hsz => omega); (case hbase => simp); intro A2 c2 w2 hown2 hg2 hg2'; have hb2 := below_append ((Below.refl (w.heap.size + 2) _).alloc (by simp) _) (own_lit2 w _ _) hg2 (by simp); obtain ⟨hA, hR, hz1, hbw⟩ := two_boxes (hb2.mono (Nat.le_of_eq (by simp))); obtain ⟨c0, c1, c2', c3, c4, f0⟩ := five hA; obtain ⟨d0, d1, d2, d3, d4, f1⟩ := five hR; clear hg2 hg2' hb2 hA hR)
      refine bodyPost_ret (v := .agg #[.int .i64 (s.cap : Int), .slice A2 s.safe c2, .int .i64 (s.safe : Int), .int .i64 (-1), .bool false]) (by simp [results, Try.results21, go_sem, *]) rfl ?_
      have HE := HLe.out
      refine ⟨A2, c2, ?_, ?_, ?_, fun g hg => ?_⟩
      · show _ = Ending.returned (.agg #[_, .slice _ (s.left s.safe y).length _, _, _, _])
        rw [hll]
      · show Own _ _ (.slice _ (s.left s.safe y).length _) (s.left s.safe y)
        rw [hll, HE]
        refine Own.mono (base := w.heap.size + 2) ?_ (by omega)
        (repeat (first | (with_reducible refine own_set ?_ (by omega) _) | with_reducible exact hown2))
      · (repeat (first | (with_reducible refine bl_set ?_ (by first | (simp; done) | (simp; omega) | omega) _) | (with_reducible refine bl_alloc ?_ _) | with_reducible exact hbw))
      · rw [hll] at hg
        have := (hown2.at_block g hg).1
        omega
end Go.Proofs.Ytiheeajepnpejaa
