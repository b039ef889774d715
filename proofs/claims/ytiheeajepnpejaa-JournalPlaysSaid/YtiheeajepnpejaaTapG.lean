/- The reference's tape: Append, Replace, Arm and Restart, walked. -/
import Derived.Test.YtiheeajepnpejaaTapF
namespace Go.Proofs.Ytiheeajepnpejaa
open Go.RowKit TapM
/-- An empty literal behind a box. -/
theorem own_lit1 (w1 : World) (X : Obj) : Own ((w1.alloc X).alloc (.cells #[] 5)) (w1.heap.size + 1) (.slice (some ⟨w1.heap.size + 1, 0, none⟩) 0 0) [] := by
  have h := Own.lit (w1.alloc X) [] (Nat.le_refl _) (by decide)
  rw [show (w1.alloc X).heap.size = w1.heap.size + 1 from by simp] at h
  exact h
theorem own_set {w : World} {base : Nat} {v : Value} {l : List UInt8} (h : Own w base v l) {p i : Nat} (hp : p < base) (u : Value) : Own (w.setCell ⟨p, i, none⟩ u) base v l :=
  h.kept (row := some p) (only_store (only_refl w _) i u) (by
    cases hv : v.ownBlock with
    | none => exact .inl rfl
    | some k =>
      right
      intro e
      injection e with e
      have := (h.at_block k hv).1
      omega)
theorem refarm_any (B : Nat) (s : TS) (A : Option Addr) (c : Nat) (n : Int) (w : World) (ho : Own w B (.slice A s.b.length c) s.b) :
    Calls Try.prog 19 #[.agg #[.int .i64 (s.cap : Int), .slice A s.b.length c, .int .i64 (s.safe : Int), .int .i64 s.fuse, .bool s.lost], .int .i64 n] w (RefTo w B A c (s.arm n)) := by
  obtain ⟨cap, b, safe, fuse, lost⟩ := s
  simp only at ho ⊢
  cases lost with
  | true =>
    rw [arm_lost rfl]
    go_enter Try.func19, Try.ntmps19
    go_wp2
    refine bodyPost_ret (v := .tuple #[.agg #[.int .i64 (cap : Int), .slice A b.length c, .int .i64 (safe : Int), .int .i64 fuse, .bool true], .int .i64 9]) (by simp [results, Try.results19, go_sem, *]) rfl ?_
    refine ⟨A, c, rfl, ho.below ?_, ?_, .inl ⟨rfl, rfl⟩⟩ <;> (repeat (first | (with_reducible refine bl_set ?_ (by first | (simp; done) | (simp; omega)) _) | (with_reducible refine bl_alloc ?_ _) | with_reducible exact hbw | with_reducible exact Below.refl _ _))
  | false =>
    by_cases hz : n < 0
    · rw [arm_arg rfl hz]
      go_enter Try.func19, Try.ntmps19
      go_wp2
      refine bodyPost_ret (v := .tuple #[.agg #[.int .i64 (cap : Int), .slice A b.length c, .int .i64 (safe : Int), .int .i64 fuse, .bool false], .int .i64 1]) (by simp [results, Try.results19, go_sem, *]) rfl ?_
      refine ⟨A, c, rfl, ho.below ?_, ?_, .inl ⟨rfl, rfl⟩⟩ <;> (repeat (first | (with_reducible refine bl_set ?_ (by first | (simp; done) | (simp; omega)) _) | (with_reducible refine bl_alloc ?_ _) | with_reducible exact hbw | with_reducible exact Below.refl _ _))
    · rw [arm_ok rfl hz]
      go_enter Try.func19, Try.ntmps19
      go_wp2
      refine bodyPost_ret (v := .tuple #[.agg #[.int .i64 (cap : Int), .slice A b.length c, .int .i64 (safe : Int), .int .i64 n, .bool false], .int .i64 0]) (by simp [results, Try.results19, go_sem, *]) rfl ?_
      refine ⟨A, c, rfl, ho.below ?_, ?_, .inl ⟨rfl, rfl⟩⟩ <;> (repeat (first | (with_reducible refine bl_set ?_ (by first | (simp; done) | (simp; omega)) _) | (with_reducible refine bl_alloc ?_ _) | with_reducible exact hbw | with_reducible exact Below.refl _ _))
set_option maxHeartbeats 800000 in
theorem refreplace_any (B : Nat) (s : TS) (A : Option Addr) (c : Nat) (X : Option Addr) (m d : Nat) (l : List UInt8) (w : World) (hok : s.Ok) (ho : Own w B (.slice A s.b.length c) s.b) (hl : Bs w X m l) (hB : B ≤ w.heap.size) :
    Calls Try.prog 9 #[.agg #[.int .i64 (s.cap : Int), .slice A s.b.length c, .int .i64 (s.safe : Int), .int .i64 s.fuse, .bool s.lost], .slice X m d] w (RefTo w B A c (s.replace l)) := by
  have hf0 := hok.f0
  have hf1 := hok.f1
  have hcc := hok.cc
  have hm := hl.1
  subst hm
  obtain ⟨cap, b, safe, fuse, lost⟩ := s
  simp only at ho hf0 hf1 hcc ⊢
  cases lost with
  | true =>
    rw [replace_lost rfl]
    go_enter Try.func9, Try.ntmps9
    go_wp2
    refine bodyPost_ret (v := .tuple #[.agg #[.int .i64 (cap : Int), .slice A b.length c, .int .i64 (safe : Int), .int .i64 fuse, .bool true], .int .i64 9]) (by simp [results, Try.results9, go_sem, *]) rfl ?_
    refine ⟨A, c, rfl, ho.below ?_, ?_, .inl ⟨rfl, rfl⟩⟩ <;> (repeat (first | (with_reducible refine bl_set ?_ (by first | (simp; done) | (simp; omega)) _) | (with_reducible refine bl_alloc ?_ _) | with_reducible exact hbw | with_reducible exact Below.refl _ _))
  | false =>
    by_cases hf : cap < l.length
    · rw [replace_full rfl hf]
      go_enter Try.func9, Try.ntmps9
      go_wp2
      refine bodyPost_ret (v := .tuple #[.agg #[.int .i64 (cap : Int), .slice A b.length c, .int .i64 (safe : Int), .int .i64 fuse, .bool false], .int .i64 4]) (by simp [results, Try.results9, go_sem, *]) rfl ?_
      refine ⟨A, c, rfl, ho.below ?_, ?_, .inl ⟨rfl, rfl⟩⟩ <;> (repeat (first | (with_reducible refine bl_set ?_ (by first | (simp; done) | (simp; omega)) _) | (with_reducible refine bl_alloc ?_ _) | with_reducible exact hbw | with_reducible exact Below.refl _ _))
    · by_cases hz : fuse = 0
      · subst hz
        rw [replace_burn rfl hf rfl]
        go_enter Try.func9, Try.ntmps9
        go_wp2_with (go_at_call 28; refine (refdone_yes _ _ _ _ _ _ _).mono ?_; rintro e w1 ⟨rfl, hb1⟩; obtain ⟨hA, hR, hz1, hbw⟩ := two_boxes hb1; obtain ⟨c0, c1, c2', c3, c4, f0⟩ := five hA; obtain ⟨d0, d1, d2, d3, d4, f1⟩ := five hR; clear hb1)
        refine bodyPost_ret (v := .tuple #[.agg #[.int .i64 (cap : Int), .slice A b.length c, .int .i64 (safe : Int), .int .i64 0, .bool true], .int .i64 9]) (by simp [results, Try.results9, go_sem, *]) rfl ?_
        refine ⟨A, c, rfl, ho.below ?_, ?_, .inl ⟨rfl, rfl⟩⟩ <;> (repeat (first | (with_reducible refine bl_set ?_ (by first | (simp; done) | (simp; omega)) _) | (with_reducible refine bl_alloc ?_ _) | with_reducible exact hbw | with_reducible exact Below.refl _ _))
      · rw [replace_ok rfl hf hz]
        go_enter Try.func9, Try.ntmps9
        go_wp2_with (first
          | (go_at_call 28; refine (refdone_no _ _ _ _ _ _ _ hz hf0 hf1 _).mono ?_; rintro e w1 ⟨rfl, hb1⟩; obtain ⟨hA, hR, hz1, hbw⟩ := two_boxes hb1; obtain ⟨c0, c1, c2', c3, c4, f0⟩ := five hA; obtain ⟨d0, d1, d2, d3, d4, f1⟩ := five hR; clear hb1)
          | (at_builtin; apply wpList_append_sl (own_lit1 w1 _) (((hl.below hbw).alloc _).alloc _) l (.tmp 21) (.tmp 22) rfl rfl rfl rfl rfl l.length rfl; (case hsz => omega); (case hbase => simp); intro A2 c2 w2 hown2 hg2 hg2'; have hb2 := (below_append ((Below.refl _ (w1.alloc (.cells #[.int .i64 (cap : Int), .slice A b.length c, .int .i64 (safe : Int), .int .i64 (dec fuse), .bool false] 30))).alloc (by simp) _) (own_lit1 w1 _) hg2 (by simp)).mono (Nat.le_of_eq (show (w1.alloc (.cells #[.int .i64 (cap : Int), .slice A b.length c, .int .i64 (safe : Int), .int .i64 (dec fuse), .bool false] 30)).heap.size = w1.heap.size + 1 from by simp)); have hX2 := (Cells.new w1 30 #[.int .i64 (cap : Int), .slice A b.length c, .int .i64 (safe : Int), .int .i64 (dec fuse), .bool false]).below hb2; have hA2 := (hA.alloc _).below hb2; have hR2 := (hR.alloc _).below hb2; have hbw2 : Below w.heap.size w w2 := (bl_alloc hbw _).trans (hb2.mono (bl_alloc hbw _).size); obtain ⟨a0, a1, a2, a3, a4, af⟩ := five hX2; obtain ⟨r0, r1, r2, r3, r4, rf⟩ := five hR2; have hz3 : w1.heap.size < w2.heap.size := (by have := hb2.size; simp at this; omega); have hz4 : ¬ w.heap.size + 1 = w1.heap.size := (by omega); have hz5 : ¬ w1.heap.size = w.heap.size + 1 := (by omega); clear hA hR c0 c1 c2' c3 c4 f0 d0 d1 d2 d3 d4 f1))
        refine bodyPost_ret (v := .tuple #[.agg #[.int .i64 (cap : Int), .slice A2 l.length c2, .int .i64 (l.length : Int), .int .i64 (dec fuse), .bool false], .int .i64 0]) (by simp [results, Try.results9, go_sem, *]) rfl ?_
        refine ⟨A2, c2, rfl, Own.mono (base := w1.heap.size + 1) ?_ (by omega), ?_, .inr fun g hg => ?_⟩
        · (repeat (first | (with_reducible refine own_set ?_ (by omega) _) | with_reducible exact hown2))
        · (repeat (first | (with_reducible refine bl_set ?_ (by first | (simp; done) | (simp; omega)) _) | (with_reducible refine bl_alloc ?_ _) | with_reducible exact hbw2 | with_reducible exact Below.refl _ _))
        · have := (hown2.at_block g hg).1
          omega
end Go.Proofs.Ytiheeajepnpejaa
