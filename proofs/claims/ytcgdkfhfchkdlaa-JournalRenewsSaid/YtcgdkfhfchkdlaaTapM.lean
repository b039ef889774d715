/- model, is and awake of the laws of layer 17, walked. -/
import Derived.Test.YtcgdkfhfchkdlaaTapL
import Derived.Test.YtcgdkfhfchkdlaaFrmT
namespace Go.Proofs.Ytcgdkfhfchkdlaa
open Go.RowKit TapM
/-- Three boxes, behind a call that left them. -/
theorem three_boxes {w w1 : World} {t t' : TypeId} {a b c : Array Value} (hb : Below (((w.alloc (.cells a t)).alloc (.cells b t')).alloc (.cells c t)).heap.size (((w.alloc (.cells a t)).alloc (.cells b t')).alloc (.cells c t)) w1) :
    Cells w1 (w.heap.size + 1 + 1) t c ∧ w.heap.size + 1 + 1 < w1.heap.size ∧ Below w.heap.size w w1 := by
  have hC := (Cells.new ((w.alloc (.cells a t)).alloc (.cells b t')) t c).below hb
  have e : ((w.alloc (.cells a t)).alloc (.cells b t')).heap.size = w.heap.size + 1 + 1 := by simp
  rw [e] at hC
  exact ⟨hC, hC.lt, (bl_alloc (bl_alloc (bl_alloc (Below.refl _ w) _) _) _).trans (hb.mono (by simp; omega))⟩
theorem Own.a3 {w : World} {B : Nat} {v : Value} {l : List UInt8} (h : Own w B v l) (X Y Z : Obj) : Own (((w.alloc X).alloc Y).alloc Z) B v l := ((h.alloc X).alloc Y).alloc Z
set_option maxHeartbeats 1600000 in
theorem model_any (B : Nat) (s : TS) (a : TAct) (A : Option Addr) (c : Nat) (X : Option Addr) (d : Nat) (w : World) (hok : s.Ok) (ho : Own w B (.slice A s.b.length c) s.b) (hl : Bs w X a.l.length a.l) (hB : B ≤ w.heap.size) :
    Calls Try.prog 59 #[.agg #[.int .i64 (s.cap : Int), .slice A s.b.length c, .int .i64 (s.safe : Int), .int .i64 s.fuse, .bool s.lost], .agg #[.int .u8 (a.kind.toNat : Int), .slice X a.l.length d, .int .i64 a.n, .int .u8 (a.y.toNat : Int)]] w (RefTo w B A c (s.act a)) := by
  by_cases h0 : a.kind = 0
  · have k0 : ((a.kind.toNat : Int) == 0) = true := kind_yes h0
    rw [act_0 h0]
    have HC := Lib.hid (fun w ho hl hB => refappend_any B s A c X a.l.length d a.l w hok ho hl hB)
    generalize s.append a.l = r at HC ⊢
    obtain ⟨⟨cap2, b2, safe2, fuse2, lost2⟩, er⟩ := r
    clear h0
    go_enter Try.func59, Try.ntmps59
    go_wp2_with (go_at_call 92; refine (HC.out _ (ho.a3 _ _ _) (((hl.alloc _).alloc _).alloc _) (by simp; omega)).mono ?_; rintro e w1 ⟨A2, c2, rfl, hown, hb1, hfr⟩; obtain ⟨hR, hz1, hbw⟩ := three_boxes hb1; obtain ⟨d0, d1, d2, d3, d4, f1⟩ := five hR; unfold refv; clear hb1)
    refine bodyPost_ret (v := .tuple #[.agg #[.int .i64 (cap2 : Int), .slice A2 b2.length c2, .int .i64 (safe2 : Int), .int .i64 fuse2, .bool lost2], .int .i64 (er : Int)]) (by simp [results, Try.results59, go_sem, *]) rfl ?_
    refine ⟨A2, c2, rfl, hown.grown (only_store (only_store (only_store (only_store (only_store (only_refl w1 (some (w.heap.size + 1 + 1))) 0 _) 1 _) 2 _) 3 _) 4 _) hR (by decide), ?_, hfr.imp id fun h g hg => ?_⟩
    · (repeat (first | (with_reducible refine bl_set ?_ (by first | (simp; done) | (simp; omega)) _) | (with_reducible refine bl_alloc ?_ _) | with_reducible exact hbw))
    · have := h g hg
      simp at this
      omega
  · have k0 : ((a.kind.toNat : Int) == 0) = false := kind_no h0
    by_cases h1 : a.kind = 1
    · have k1 : ((a.kind.toNat : Int) == 1) = true := kind_yes h1
      rw [act_1 h1]
      have HC := Lib.hid (fun w ho => refsync_any B s A c w hok ho)
      generalize s.sync = r at HC ⊢
      obtain ⟨⟨cap2, b2, safe2, fuse2, lost2⟩, er⟩ := r
      clear h0 h1
      go_enter Try.func59, Try.ntmps59
      go_wp2_with (go_at_call 93; refine (HC.out _ (ho.a3 _ _ _)).mono ?_; rintro e w1 ⟨A2, c2, rfl, hown, hb1, hfr⟩; obtain ⟨hR, hz1, hbw⟩ := three_boxes hb1; obtain ⟨d0, d1, d2, d3, d4, f1⟩ := five hR; unfold refv; clear hb1)
      refine bodyPost_ret (v := .tuple #[.agg #[.int .i64 (cap2 : Int), .slice A2 b2.length c2, .int .i64 (safe2 : Int), .int .i64 fuse2, .bool lost2], .int .i64 (er : Int)]) (by simp [results, Try.results59, go_sem, *]) rfl ?_
      refine ⟨A2, c2, rfl, hown.grown (only_store (only_store (only_store (only_store (only_store (only_refl w1 (some (w.heap.size + 1 + 1))) 0 _) 1 _) 2 _) 3 _) 4 _) hR (by decide), ?_, hfr.imp id fun h g hg => ?_⟩
      · (repeat (first | (with_reducible refine bl_set ?_ (by first | (simp; done) | (simp; omega)) _) | (with_reducible refine bl_alloc ?_ _) | with_reducible exact hbw))
      · have := h g hg
        simp at this
        omega
    · have k1 : ((a.kind.toNat : Int) == 1) = false := kind_no h1
      by_cases h2 : a.kind = 2
      · have k2 : ((a.kind.toNat : Int) == 2) = true := kind_yes h2
        rw [act_2 h2]
        have HC := Lib.hid (fun w ho hl hB => refreplace_any B s A c X a.l.length d a.l w hok ho hl hB)
        generalize s.replace a.l = r at HC ⊢
        obtain ⟨⟨cap2, b2, safe2, fuse2, lost2⟩, er⟩ := r
        clear h0 h1 h2
        go_enter Try.func59, Try.ntmps59
        go_wp2_with (go_at_call 67; refine (HC.out _ (ho.a3 _ _ _) (((hl.alloc _).alloc _).alloc _) (by simp; omega)).mono ?_; rintro e w1 ⟨A2, c2, rfl, hown, hb1, hfr⟩; obtain ⟨hR, hz1, hbw⟩ := three_boxes hb1; obtain ⟨d0, d1, d2, d3, d4, f1⟩ := five hR; unfold refv; clear hb1)
        refine bodyPost_ret (v := .tuple #[.agg #[.int .i64 (cap2 : Int), .slice A2 b2.length c2, .int .i64 (safe2 : Int), .int .i64 fuse2, .bool lost2], .int .i64 (er : Int)]) (by simp [results, Try.results59, go_sem, *]) rfl ?_
        refine ⟨A2, c2, rfl, hown.grown (only_store (only_store (only_store (only_store (only_store (only_refl w1 (some (w.heap.size + 1 + 1))) 0 _) 1 _) 2 _) 3 _) 4 _) hR (by decide), ?_, hfr.imp id fun h g hg => ?_⟩
        · (repeat (first | (with_reducible refine bl_set ?_ (by first | (simp; done) | (simp; omega)) _) | (with_reducible refine bl_alloc ?_ _) | with_reducible exact hbw))
        · have := h g hg
          simp at this
          omega
      · have k2 : ((a.kind.toNat : Int) == 2) = false := kind_no h2
        by_cases h3 : a.kind = 3
        · have k3 : ((a.kind.toNat : Int) == 3) = true := kind_yes h3
          rw [act_3 h3]
          have HC := Lib.hid (fun w ho => refarm_any B s A c a.n w ho)
          generalize s.arm a.n = r at HC ⊢
          obtain ⟨⟨cap2, b2, safe2, fuse2, lost2⟩, er⟩ := r
          clear h0 h1 h2 h3
          go_enter Try.func59, Try.ntmps59
          go_wp2_with (go_at_call 78; refine (HC.out _ (ho.a3 _ _ _)).mono ?_; rintro e w1 ⟨A2, c2, rfl, hown, hb1, hfr⟩; obtain ⟨hR, hz1, hbw⟩ := three_boxes hb1; obtain ⟨d0, d1, d2, d3, d4, f1⟩ := five hR; unfold refv; clear hb1)
          refine bodyPost_ret (v := .tuple #[.agg #[.int .i64 (cap2 : Int), .slice A2 b2.length c2, .int .i64 (safe2 : Int), .int .i64 fuse2, .bool lost2], .int .i64 (er : Int)]) (by simp [results, Try.results59, go_sem, *]) rfl ?_
          refine ⟨A2, c2, rfl, hown.grown (only_store (only_store (only_store (only_store (only_store (only_refl w1 (some (w.heap.size + 1 + 1))) 0 _) 1 _) 2 _) 3 _) 4 _) hR (by decide), ?_, hfr.imp id fun h g hg => ?_⟩
          · (repeat (first | (with_reducible refine bl_set ?_ (by first | (simp; done) | (simp; omega)) _) | (with_reducible refine bl_alloc ?_ _) | with_reducible exact hbw))
          · have := h g hg
            simp at this
            omega
        · have k3 : ((a.kind.toNat : Int) == 3) = false := kind_no h3
          rw [act_4 h0 h1 h2 h3]
          have HC := Lib.hid (fun w ho hB => refrestart_any B s A c a.n a.y w hok ho hB)
          generalize s.restart a.n a.y = r at HC ⊢
          obtain ⟨cap2, b2, safe2, fuse2, lost2⟩ := r
          clear h0 h1 h2 h3
          go_enter Try.func59, Try.ntmps59
          go_wp2_with (go_at_call 79; refine (HC.out _ (ho.a3 _ _ _) (by simp; omega)).mono ?_; rintro e w1 ⟨A2, c2, rfl, hown, hb1, hfr⟩; obtain ⟨hR, hz1, hbw⟩ := three_boxes hb1; obtain ⟨d0, d1, d2, d3, d4, f1⟩ := five hR; unfold refv; clear hb1)
          refine bodyPost_ret (v := .tuple #[.agg #[.int .i64 (cap2 : Int), .slice A2 b2.length c2, .int .i64 (safe2 : Int), .int .i64 fuse2, .bool lost2], .int .i64 0]) (by simp [results, Try.results59, go_sem, *]) rfl ?_
          refine ⟨A2, c2, rfl, hown.grown (only_store (only_store (only_store (only_store (only_store (only_refl w1 (some (w.heap.size + 1 + 1))) 0 _) 1 _) 2 _) 3 _) 4 _) hR (by decide), ?_, .inr fun g hg => ?_⟩
          · (repeat (first | (with_reducible refine bl_set ?_ (by first | (simp; done) | (simp; omega)) _) | (with_reducible refine bl_alloc ?_ _) | with_reducible exact hbw))
          · have := hfr g hg
            simp at this
            omega
end Go.Proofs.Ytcgdkfhfchkdlaa
