/- The reference's journal (a value): Write, walked. -/
import Derived.Test.YtiheeajepnpejaaJouS
namespace Go.Proofs.Ytiheeajepnpejaa
open Go.RowKit TapM FrameM JouM
set_option maxRecDepth 100000 in
set_option maxHeartbeats 6400000 in
theorem refwrite_any (B : Nat) (s : TS) (n : Nat) (A : Option Addr) (c : Nat) (X : Option Addr) (m d : Nat) (l : List UInt8) (w : World) (hok : s.Ok) (ho : Own w B (.slice A s.b.length c) s.b) (hl : Bs w X m l) (hB : B ≤ w.heap.size) (hn : n ≤ 1000000000) :
    Calls Try.prog 16 #[.agg #[.int .i64 (s.cap : Int), .slice A s.b.length c, .int .i64 (s.safe : Int), .int .i64 s.fuse, .bool s.lost, .int .i64 (n : Int)], .slice X m d] w (RefJ w B (JouM.write s n l)) := by
  have hml := hl.1
  by_cases hm : 60000 < m
  · have e : JouM.write s n l = ((s, n), 3) := by unfold JouM.write; rw [if_pos (by omega)]
    rw [e]
    clear e hml
    obtain ⟨cap, b, safe, fuse, lost⟩ := s
    simp only at ho ⊢
    go_enter Try.func16, Try.ntmps16
    go_wp2_with (go_at_call 35; refine (refframe_long X m d hm _).mono ?_; rintro e w1 ⟨rfl, rfl⟩)
    refine bodyPost_ret (v := .tuple #[.agg #[.int .i64 (cap : Int), .slice A b.length c, .int .i64 (safe : Int), .int .i64 fuse, .bool lost, .int .i64 (n : Int)], .int .i64 3]) (by simp [results, Try.results16, go_sem, *]) rfl ?_
    refine ⟨A, c, rfl, ho.below ?_, ?_⟩ <;> (repeat (first | (with_reducible refine bl_set ?_ (by first | (simp; done) | (simp; omega)) _) | (with_reducible refine bl_alloc ?_ _) | with_reducible exact Below.refl _ _))
  · have e : JouM.write s n l = if (s.append (frame l)).2 ≠ 0 then (((s.append (frame l)).1, n), (s.append (frame l)).2) else
        if (s.append (frame l)).1.sync.2 ≠ 0 then (((s.append (frame l)).1.sync.1, n), (s.append (frame l)).1.sync.2) else (((s.append (frame l)).1.sync.1, n + 1), 0) := by
      unfold JouM.write; rw [if_neg (by omega)]
    rw [e]
    have HF := Lib.hid (fun W h => refframe_any X m d l W h (by omega))
    have HA := Lib.hid (fun A2 c2 W ho h hB => refappend_any B s A c A2 (m + 8) c2 (frame l) W hok ho h hB)
    have hok1 := hok.append (frame l)
    generalize s.append (frame l) = r1 at HA hok1 ⊢
    obtain ⟨s1, e1⟩ := r1
    simp only at hok1
    have HS := Lib.hid (fun A2 c2 W ho => refsync_any B s1 A2 c2 W hok1 ho)
    generalize s1.sync = r2 at HS ⊢
    obtain ⟨⟨cap3, b3, safe3, fuse3, lost3⟩, e2⟩ := r2
    obtain ⟨cap2, b2, safe2, fuse2, lost2⟩ := s1
    obtain ⟨cap, b, safe, fuse, lost⟩ := s
    simp only at ho HA HS ⊢
    clear e hml hok hok1
    by_cases h1 : e1 = 0
    · subst h1
      rw [if_neg (by simp)]
      by_cases h2 : e2 = 0
      · subst h2
        rw [if_neg (by simp)]
        go_enter Try.func16, Try.ntmps16
        go_wp2_with (first
          | (go_at_call 35; refine (HF.out _ ((hl.alloc _).alloc _)).mono ?_; rintro e w1 ⟨A1, c1, rfl, hO1, hb1⟩; obtain ⟨hA, hR, hz1, hbw⟩ := two_boxes hb1; obtain ⟨c0, c1', c2', c3, c4, c5, f0⟩ := six hA; have ho1 := (((ho.alloc _).alloc _).below hb1))
          | (go_at_call 36; refine (HA.out A1 c1 _ ho1 hO1.bs (by have := hbw.size; omega)).mono ?_; rintro e w2 ⟨A2, c2, rfl, hown, hb2, _⟩; have hA2 := hA.below hb2; have hR2 := hR.below hb2; have hbw2 : Below w.heap.size w w2 := chain hbw hb2; obtain ⟨d0, d1, d2, d3, d4, d5, f1⟩ := six hA2; obtain ⟨r0, r1, r2, r3, r4, r5, f2⟩ := six hR2; have hz2 := hR2.lt; clear c0 c1' c2' c3 c4 c5 f0; unfold refv)
          | (go_at_call 37; have ho2 := hown.grown (only_set5 w2 w.heap.size (.int .i64 (cap2 : Int)) (.slice A2 b2.length c2) (.int .i64 (safe2 : Int)) (.int .i64 fuse2) (.bool lost2)) hA2 jref_ne; have hA2' := hA2.set5 (.int .i64 (cap2 : Int)) (.slice A2 b2.length c2) (.int .i64 (safe2 : Int)) (.int .i64 fuse2) (.bool lost2); have hR2' := hR2.grown (only_set5 w2 w.heap.size (.int .i64 (cap2 : Int)) (.slice A2 b2.length c2) (.int .i64 (safe2 : Int)) (.int .i64 fuse2) (.bool lost2)) (by simp); have hbs : Below w.heap.size w (set5 w2 w.heap.size (.int .i64 (cap2 : Int)) (.slice A2 b2.length c2) (.int .i64 (safe2 : Int)) (.int .i64 fuse2) (.bool lost2)) := below_only hbw2 (only_set5 w2 w.heap.size (.int .i64 (cap2 : Int)) (.slice A2 b2.length c2) (.int .i64 (safe2 : Int)) (.int .i64 fuse2) (.bool lost2)) (Nat.le_refl _) (by omega); refine (HS.out A2 c2 _ ho2).mono ?_; rintro e w3 ⟨A3, c3, rfl, hown3, hb3, _⟩; have hA3 := hA2'.below hb3; have hR3 := hR2'.below hb3; have hbw3 : Below w.heap.size w w3 := chain hbs hb3; clear d0 d1 d2 d3 d4 d5 f1 r0 r1 r2 r3 r4 r5 f2 hbs; obtain ⟨d0, d1, d2, d3, d4, d5, f1⟩ := six hA3; obtain ⟨r0, r1, r2, r3, r4, r5, f2⟩ := six hR3; have hz3 := hR3.lt; unfold refv))
        have na := hown3.apart hA3 jref_ne
        have nr := hown3.apart hR3 jref_ne
        refine bodyPost_ret (v := .tuple #[.agg #[.int .i64 (cap3 : Int), .slice A3 b3.length c3, .int .i64 (safe3 : Int), .int .i64 fuse3, .bool lost3, .int .i64 ((n : Int) + 1)], .int .i64 0]) (by simp [results, Try.results16, go_sem, *]) rfl ?_
        refine ⟨A3, c3, rfl, ?_, ?_⟩
        · (repeat (first | (with_reducible refine own_far ?_ (by assumption) _) | with_reducible exact hown3))
        · (repeat (first | (with_reducible refine bl_set ?_ (by first | (simp; done) | (simp; omega)) _) | (with_reducible refine bl_alloc ?_ _) | with_reducible exact hbw3))
      · have he : ((e2 : Int) != 0) = true := by rw [bne_iff_ne]; omega
        rw [if_pos h2]
        go_enter Try.func16, Try.ntmps16
        go_wp2_with (first
          | (go_at_call 35; refine (HF.out _ ((hl.alloc _).alloc _)).mono ?_; rintro e w1 ⟨A1, c1, rfl, hO1, hb1⟩; obtain ⟨hA, hR, hz1, hbw⟩ := two_boxes hb1; obtain ⟨c0, c1', c2', c3, c4, c5, f0⟩ := six hA; have ho1 := (((ho.alloc _).alloc _).below hb1))
          | (go_at_call 36; refine (HA.out A1 c1 _ ho1 hO1.bs (by have := hbw.size; omega)).mono ?_; rintro e w2 ⟨A2, c2, rfl, hown, hb2, _⟩; have hA2 := hA.below hb2; have hR2 := hR.below hb2; have hbw2 : Below w.heap.size w w2 := chain hbw hb2; obtain ⟨d0, d1, d2, d3, d4, d5, f1⟩ := six hA2; obtain ⟨r0, r1, r2, r3, r4, r5, f2⟩ := six hR2; have hz2 := hR2.lt; clear c0 c1' c2' c3 c4 c5 f0; unfold refv)
          | (go_at_call 37; have ho2 := hown.grown (only_set5 w2 w.heap.size (.int .i64 (cap2 : Int)) (.slice A2 b2.length c2) (.int .i64 (safe2 : Int)) (.int .i64 fuse2) (.bool lost2)) hA2 jref_ne; have hA2' := hA2.set5 (.int .i64 (cap2 : Int)) (.slice A2 b2.length c2) (.int .i64 (safe2 : Int)) (.int .i64 fuse2) (.bool lost2); have hR2' := hR2.grown (only_set5 w2 w.heap.size (.int .i64 (cap2 : Int)) (.slice A2 b2.length c2) (.int .i64 (safe2 : Int)) (.int .i64 fuse2) (.bool lost2)) (by simp); have hbs : Below w.heap.size w (set5 w2 w.heap.size (.int .i64 (cap2 : Int)) (.slice A2 b2.length c2) (.int .i64 (safe2 : Int)) (.int .i64 fuse2) (.bool lost2)) := below_only hbw2 (only_set5 w2 w.heap.size (.int .i64 (cap2 : Int)) (.slice A2 b2.length c2) (.int .i64 (safe2 : Int)) (.int .i64 fuse2) (.bool lost2)) (Nat.le_refl _) (by omega); refine (HS.out A2 c2 _ ho2).mono ?_; rintro e w3 ⟨A3, c3, rfl, hown3, hb3, _⟩; have hA3 := hA2'.below hb3; have hR3 := hR2'.below hb3; have hbw3 : Below w.heap.size w w3 := chain hbs hb3; clear d0 d1 d2 d3 d4 d5 f1 r0 r1 r2 r3 r4 r5 f2 hbs; obtain ⟨d0, d1, d2, d3, d4, d5, f1⟩ := six hA3; obtain ⟨r0, r1, r2, r3, r4, r5, f2⟩ := six hR3; have hz3 := hR3.lt; unfold refv))
        have na := hown3.apart hA3 jref_ne
        have nr := hown3.apart hR3 jref_ne
        refine bodyPost_ret (v := .tuple #[.agg #[.int .i64 (cap3 : Int), .slice A3 b3.length c3, .int .i64 (safe3 : Int), .int .i64 fuse3, .bool lost3, .int .i64 (n : Int)], .int .i64 (e2 : Int)]) (by simp [results, Try.results16, go_sem, *]) rfl ?_
        refine ⟨A3, c3, rfl, ?_, ?_⟩
        · (repeat (first | (with_reducible refine own_far ?_ (by assumption) _) | with_reducible exact hown3))
        · (repeat (first | (with_reducible refine bl_set ?_ (by first | (simp; done) | (simp; omega)) _) | (with_reducible refine bl_alloc ?_ _) | with_reducible exact hbw3))
    · have he : ((e1 : Int) != 0) = true := by rw [bne_iff_ne]; omega
      rw [if_pos h1]
      clear HS
      go_enter Try.func16, Try.ntmps16
      go_wp2_with (first
        | (go_at_call 35; refine (HF.out _ ((hl.alloc _).alloc _)).mono ?_; rintro e w1 ⟨A1, c1, rfl, hO1, hb1⟩; obtain ⟨hA, hR, hz1, hbw⟩ := two_boxes hb1; obtain ⟨c0, c1', c2', c3, c4, c5, f0⟩ := six hA; have ho1 := (((ho.alloc _).alloc _).below hb1))
        | (go_at_call 36; refine (HA.out A1 c1 _ ho1 hO1.bs (by have := hbw.size; omega)).mono ?_; rintro e w2 ⟨A2, c2, rfl, hown, hb2, _⟩; have hA2 := hA.below hb2; have hR2 := hR.below hb2; have hbw2 : Below w.heap.size w w2 := chain hbw hb2; obtain ⟨d0, d1, d2, d3, d4, d5, f1⟩ := six hA2; obtain ⟨r0, r1, r2, r3, r4, r5, f2⟩ := six hR2; have hz2 := hR2.lt; clear c0 c1' c2' c3 c4 c5 f0; unfold refv))
      have na := hown.apart hA2 jref_ne
      have nr := hown.apart hR2 jref_ne
      refine bodyPost_ret (v := .tuple #[.agg #[.int .i64 (cap2 : Int), .slice A2 b2.length c2, .int .i64 (safe2 : Int), .int .i64 fuse2, .bool lost2, .int .i64 (n : Int)], .int .i64 (e1 : Int)]) (by simp [results, Try.results16, go_sem, *]) rfl ?_
      refine ⟨A2, c2, rfl, ?_, ?_⟩
      · (repeat (first | (with_reducible refine own_far ?_ (by assumption) _) | with_reducible exact hown))
      · (repeat (first | (with_reducible refine bl_set ?_ (by first | (simp; done) | (simp; omega)) _) | (with_reducible refine bl_alloc ?_ _) | with_reducible exact hbw2))
end Go.Proofs.Ytiheeajepnpejaa
