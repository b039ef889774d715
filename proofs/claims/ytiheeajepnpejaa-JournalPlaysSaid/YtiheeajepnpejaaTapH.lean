/- The reference's tape: Append, walked. -/
import Derived.Test.YtiheeajepnpejaaTapG
namespace Go.Proofs.Ytiheeajepnpejaa
open Go.RowKit TapM
set_option maxHeartbeats 1600000 in
theorem refappend_any (B : Nat) (s : TS) (A : Option Addr) (c : Nat) (X : Option Addr) (m d : Nat) (l : List UInt8) (w : World) (hok : s.Ok) (ho : Own w B (.slice A s.b.length c) s.b) (hl : Bs w X m l) (hB : B ≤ w.heap.size) :
    Calls Try.prog 36 #[.agg #[.int .i64 (s.cap : Int), .slice A s.b.length c, .int .i64 (s.safe : Int), .int .i64 s.fuse, .bool s.lost], .slice X m d] w (RefTo w B A c (s.append l)) := by
  have hf0 := hok.f0
  have hf1 := hok.f1
  have hcc := hok.cc
  have hbc := hok.bc
  have hm := hl.1
  subst hm
  obtain ⟨cap, b, safe, fuse, lost⟩ := s
  simp only at ho hf0 hf1 hcc hbc ⊢
  cases lost with
  | true =>
    rw [append_lost rfl]
    go_enter Try.func36, Try.ntmps36
    go_wp2
    refine bodyPost_ret (v := .tuple #[.agg #[.int .i64 (cap : Int), .slice A b.length c, .int .i64 (safe : Int), .int .i64 fuse, .bool true], .int .i64 9]) (by simp [results, Try.results36, go_sem, *]) rfl ?_
    refine ⟨A, c, rfl, ho.below ?_, ?_, .inl ⟨rfl, rfl⟩⟩ <;> (repeat (first | (with_reducible refine bl_set ?_ (by first | (simp; done) | (simp; omega)) _) | (with_reducible refine bl_alloc ?_ _) | with_reducible exact hbw | with_reducible exact Below.refl _ _))
  | false =>
    by_cases hf : cap < b.length + l.length
    · rw [append_full rfl hf]
      have i1 : (cap : Int) - (b.length : Int) < (l.length : Int) := by omega
      go_enter Try.func36, Try.ntmps36
      go_wp2
      refine bodyPost_ret (v := .tuple #[.agg #[.int .i64 (cap : Int), .slice A b.length c, .int .i64 (safe : Int), .int .i64 fuse, .bool false], .int .i64 4]) (by simp [results, Try.results36, go_sem, *]) rfl ?_
      refine ⟨A, c, rfl, ho.below ?_, ?_, .inl ⟨rfl, rfl⟩⟩ <;> (repeat (first | (with_reducible refine bl_set ?_ (by first | (simp; done) | (simp; omega)) _) | (with_reducible refine bl_alloc ?_ _) | with_reducible exact hbw | with_reducible exact Below.refl _ _))
    · have i1 : ¬ (cap : Int) - (b.length : Int) < (l.length : Int) := by omega
      by_cases hz : fuse = 0
      · subst hz
        rw [append_burn rfl hf rfl]
        go_enter Try.func36, Try.ntmps36
        go_wp2_with (first
          | (go_at_call 28; refine (refdone_yes _ _ _ _ _ _ _).mono ?_; rintro e w1 ⟨rfl, hb1⟩; obtain ⟨hA, hR, hz1, hbw⟩ := two_boxes hb1; obtain ⟨c0, c1, c2', c3, c4, f0⟩ := five hA; obtain ⟨d0, d1, d2, d3, d4, f1⟩ := five hR; have hz6 : w.heap.size < w1.heap.size := (by omega); have hz7 : w.heap.size < w1.heap.size + 1 := (by omega); have hz8 : ¬ w.heap.size = w1.heap.size := (by omega); have hz9 : ¬ w.heap.size = w1.heap.size + 1 := (by omega); clear hb1)
          | (at_builtin; apply wpList_append_sl (own_lit1 w1 _) (((ho.bs.below hbw).alloc _).alloc _) b (.tmp 22) (.tmp 24) rfl rfl rfl rfl rfl b.length rfl; (case hsz => omega); (case hbase => simp); intro A2 c2 w2 hown2 hg2 hg2'; have hb2 := (below_append ((Below.refl _ (w1.alloc (.cells #[.int .i64 (cap : Int), .slice A b.length c, .int .i64 (safe : Int), .int .i64 0, .bool true] 30))).alloc (by simp) _) (own_lit1 w1 _) hg2 (by simp)).mono (Nat.le_of_eq (show (w1.alloc (.cells #[.int .i64 (cap : Int), .slice A b.length c, .int .i64 (safe : Int), .int .i64 0, .bool true] 30)).heap.size = w1.heap.size + 1 from by simp)); have hbw2 : Below w.heap.size w w2 := (bl_alloc hbw _).trans (hb2.mono (bl_alloc hbw _).size); have hz2 : w1.heap.size + 1 ≤ w2.heap.size := (by have := hb2.size; simp at this; omega))
          | (at_builtin; apply wpList_append_sl hown2 (hl.below hbw2) (b ++ l) (.tmp 25) (.tmp 26) rfl rfl rfl rfl rfl (b.length + l.length) List.length_append; (case hsz => omega); (case hbase => omega); intro A3 q3 w3 hown3 hg3 hg3'; have hb3 := (below_append (B := w1.heap.size + 1) (hb2.mono (by simp)) hown2 hg3 hz2).mono (Nat.le_of_eq (show (w1.alloc (.cells #[.int .i64 (cap : Int), .slice A b.length c, .int .i64 (safe : Int), .int .i64 0, .bool true] 30)).heap.size = w1.heap.size + 1 from by simp)); have hX3 := (Cells.new w1 30 #[.int .i64 (cap : Int), .slice A b.length c, .int .i64 (safe : Int), .int .i64 0, .bool true]).below hb3; have hR3 := (hR.alloc _).below hb3; have hbw3 : Below w.heap.size w w3 := (bl_alloc hbw _).trans (hb3.mono (bl_alloc hbw _).size); obtain ⟨a0, a1, a2, a3, a4, af⟩ := five hX3; obtain ⟨r0, r1, r2, r3, r4, rf⟩ := five hR3; have hz3 : w1.heap.size < w3.heap.size := (by have := hb3.size; simp at this; omega); have hz4 : ¬ w.heap.size + 1 = w1.heap.size := (by omega); have hz5 : ¬ w1.heap.size = w.heap.size + 1 := (by omega); clear hA hR c0 c1 c2' c3 c4 f0 d0 d1 d2 d3 d4 f1))
        refine bodyPost_ret (v := .tuple #[.agg #[.int .i64 (cap : Int), .slice A3 (b.length + l.length) q3, .int .i64 (safe : Int), .int .i64 0, .bool true], .int .i64 9]) (by simp [results, Try.results36, go_sem, *]) rfl ?_
        have el : (b ++ l).length = b.length + l.length := List.length_append
        rw [← el] at hown3
        rw [← el]
        refine ⟨A3, q3, rfl, Own.mono (base := w1.heap.size + 1) ?_ (by omega), ?_, .inr fun g hg => ?_⟩
        · (repeat (first | (with_reducible refine own_set ?_ (by omega) _) | with_reducible exact hown3))
        · (repeat (first | (with_reducible refine bl_set ?_ (by first | (simp; done) | (simp; omega)) _) | (with_reducible refine bl_alloc ?_ _) | with_reducible exact hbw3 | with_reducible exact Below.refl _ _))
        · have := (hown3.at_block g hg).1
          omega
      · rw [append_ok rfl hf hz]
        go_enter Try.func36, Try.ntmps36
        go_wp2_with (first
          | (go_at_call 28; refine (refdone_no _ _ _ _ _ _ _ hz hf0 hf1 _).mono ?_; rintro e w1 ⟨rfl, hb1⟩; obtain ⟨hA, hR, hz1, hbw⟩ := two_boxes hb1; obtain ⟨c0, c1, c2', c3, c4, f0⟩ := five hA; obtain ⟨d0, d1, d2, d3, d4, f1⟩ := five hR; have hz6 : w.heap.size < w1.heap.size := (by omega); have hz7 : w.heap.size < w1.heap.size + 1 := (by omega); have hz8 : ¬ w.heap.size = w1.heap.size := (by omega); have hz9 : ¬ w.heap.size = w1.heap.size + 1 := (by omega); clear hb1)
          | (at_builtin; apply wpList_append_sl (own_lit1 w1 _) (((ho.bs.below hbw).alloc _).alloc _) b (.tmp 22) (.tmp 24) rfl rfl rfl rfl rfl b.length rfl; (case hsz => omega); (case hbase => simp); intro A2 c2 w2 hown2 hg2 hg2'; have hb2 := (below_append ((Below.refl _ (w1.alloc (.cells #[.int .i64 (cap : Int), .slice A b.length c, .int .i64 (safe : Int), .int .i64 (dec fuse), .bool false] 30))).alloc (by simp) _) (own_lit1 w1 _) hg2 (by simp)).mono (Nat.le_of_eq (show (w1.alloc (.cells #[.int .i64 (cap : Int), .slice A b.length c, .int .i64 (safe : Int), .int .i64 (dec fuse), .bool false] 30)).heap.size = w1.heap.size + 1 from by simp)); have hbw2 : Below w.heap.size w w2 := (bl_alloc hbw _).trans (hb2.mono (bl_alloc hbw _).size); have hz2 : w1.heap.size + 1 ≤ w2.heap.size := (by have := hb2.size; simp at this; omega))
          | (at_builtin; apply wpList_append_sl hown2 (hl.below hbw2) (b ++ l) (.tmp 25) (.tmp 26) rfl rfl rfl rfl rfl (b.length + l.length) List.length_append; (case hsz => omega); (case hbase => omega); intro A3 q3 w3 hown3 hg3 hg3'; have hb3 := (below_append (B := w1.heap.size + 1) (hb2.mono (by simp)) hown2 hg3 hz2).mono (Nat.le_of_eq (show (w1.alloc (.cells #[.int .i64 (cap : Int), .slice A b.length c, .int .i64 (safe : Int), .int .i64 (dec fuse), .bool false] 30)).heap.size = w1.heap.size + 1 from by simp)); have hX3 := (Cells.new w1 30 #[.int .i64 (cap : Int), .slice A b.length c, .int .i64 (safe : Int), .int .i64 (dec fuse), .bool false]).below hb3; have hR3 := (hR.alloc _).below hb3; have hbw3 : Below w.heap.size w w3 := (bl_alloc hbw _).trans (hb3.mono (bl_alloc hbw _).size); obtain ⟨a0, a1, a2, a3, a4, af⟩ := five hX3; obtain ⟨r0, r1, r2, r3, r4, rf⟩ := five hR3; have hz3 : w1.heap.size < w3.heap.size := (by have := hb3.size; simp at this; omega); have hz4 : ¬ w.heap.size + 1 = w1.heap.size := (by omega); have hz5 : ¬ w1.heap.size = w.heap.size + 1 := (by omega); clear hA hR c0 c1 c2' c3 c4 f0 d0 d1 d2 d3 d4 f1))
        refine bodyPost_ret (v := .tuple #[.agg #[.int .i64 (cap : Int), .slice A3 (b.length + l.length) q3, .int .i64 (safe : Int), .int .i64 (dec fuse), .bool false], .int .i64 0]) (by simp [results, Try.results36, go_sem, *]) rfl ?_
        have el : (b ++ l).length = b.length + l.length := List.length_append
        rw [← el] at hown3
        rw [← el]
        refine ⟨A3, q3, rfl, Own.mono (base := w1.heap.size + 1) ?_ (by omega), ?_, .inr fun g hg => ?_⟩
        · (repeat (first | (with_reducible refine own_set ?_ (by omega) _) | with_reducible exact hown3))
        · (repeat (first | (with_reducible refine bl_set ?_ (by first | (simp; done) | (simp; omega)) _) | (with_reducible refine bl_alloc ?_ _) | with_reducible exact hbw3 | with_reducible exact Below.refl _ _))
        · have := (hown3.at_block g hg).1
          omega
end Go.Proofs.Ytiheeajepnpejaa
