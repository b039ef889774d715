/- The law TapePlays of layer 17, walked: it answers true, whatever capacity, whatever befalls the tape. -/
import Derived.Test.YtcgdkfhfchkdlaaTapN
import Derived.Deep.RegionHeld3
import Derived.Deep.DeepCutAuto
namespace Go.Proofs.Ytcgdkfhfchkdlaa
open Go.RowKit TapM
theorem ref_ne : (77 : TypeId) ≠ 5 := by decide
theorem is_new (p cap : Nat) (w : World) (h : TapeAt w p (TS.new cap)) :
    Calls Try.prog 58 #[.pointer (some ⟨p, 0, none⟩), .agg #[.int .i64 (cap : Int), .slice none 0 0, .int .i64 0, .int .i64 (-1), .bool false]] w fun e w' => e = .returned (.bool true) ∧ Below w.heap.size w w' :=
  is_any p (TS.new cap) none 0 w h (Bs.nil _ _)
theorem cells_new {w : World} {q cap : Nat} (h : Cells w q 77 #[.int .i64 (cap : Int), .slice none 0 0, .int .i64 0, .int .i64 (-1), .bool false]) : Cells w q 77 (tcells (TS.new cap) none 0) := h
theorem keep9 {w w' : World} (hb : Below w.heap.size w w') {p0 p1 p2 p3 p4 p5 p6 p7 p8 : Addr} {v0 v1 v2 v3 v4 v5 v6 v7 v8 : Value} (h0 : w.cell? p0 = some v0) (h1 : w.cell? p1 = some v1) (h2 : w.cell? p2 = some v2) (h3 : w.cell? p3 = some v3) (h4 : w.cell? p4 = some v4)
    (h5 : w.cell? p5 = some v5) (h6 : w.cell? p6 = some v6) (h7 : w.cell? p7 = some v7) (h8 : w.cell? p8 = some v8) :
    w'.cell? p0 = some v0 ∧ w'.cell? p1 = some v1 ∧ w'.cell? p2 = some v2 ∧ w'.cell? p3 = some v3 ∧ w'.cell? p4 = some v4 ∧ w'.cell? p5 = some v5 ∧ w'.cell? p6 = some v6 ∧ w'.cell? p7 = some v7 ∧ w'.cell? p8 = some v8 :=
  ⟨cell_below hb h0, cell_below hb h1, cell_below hb h2, cell_below hb h3, cell_below hb h4, cell_below hb h5, cell_below hb h6, cell_below hb h7, cell_below hb h8⟩
theorem draw_way {wr w5 : World} (h : Below wr.drew.heap.size wr.drew w5) : Below wr.heap.size wr w5 := ⟨h.os, h.tape, h.output, h.size, h.block⟩
theorem alloc_way {wr w5 : World} {cs : Array Value} {t : TypeId} (h : Below (wr.alloc (.cells cs t)).drew.heap.size (wr.alloc (.cells cs t)).drew w5) : Cells w5 wr.heap.size t cs ∧ wr.heap.size < w5.heap.size ∧ Below wr.heap.size wr w5 := by
  have h' := draw_way h
  have hC := (Cells.new wr t cs).below h'
  exact ⟨hC, hC.lt, (bl_alloc (Below.refl _ wr) _).trans (h'.mono (by simp))⟩
/-- What the loop of a law that plays keeps: the tape at p, the reference's tape in block q. -/
def Both (wr : World) (B p q : Nat) (s : TS) : Prop := TapeAt wr p s ∧ ∃ A2 c2, Cells wr q 77 (tcells s A2 c2) ∧ Own wr B (.slice A2 s.b.length c2) s.b
theorem both_next {w7 : World} {B p q : Nat} {s2 : TS} {A3 : Option Addr} {a0 a1 a2 a3 a4 : Value} {c : Nat} (hT : TapeAt w7 p s2) (hQ : Cells w7 q 77 #[a0, a1, a2, a3, a4]) (hO : Own w7 B (.slice A3 s2.b.length c) s2.b) (hne : p ≠ q) :
    Both (((((w7.setCell ⟨q, 0, none⟩ (.int .i64 (s2.cap : Int))).setCell ⟨q, 1, none⟩ (.slice A3 s2.b.length c)).setCell ⟨q, 2, none⟩ (.int .i64 (s2.safe : Int))).setCell ⟨q, 3, none⟩ (.int .i64 s2.fuse)).setCell ⟨q, 4, none⟩ (.bool s2.lost)) B p q s2 := by
  have hg := only_store (only_store (only_store (only_store (only_store (only_refl w7 (some q)) 0 (.int .i64 (s2.cap : Int))) 1 (.slice A3 s2.b.length c)) 2 (.int .i64 (s2.safe : Int))) 3 (.int .i64 s2.fuse)) 4 (.bool s2.lost)
  exact ⟨hT.far hQ ref_ne hne hg, A3, c, ((((hQ.store 0 _).store 1 _).store 2 _).store 3 _).store 4 _, hO.grown hg hQ ref_ne⟩
set_option maxRecDepth 100000 in
set_option maxHeartbeats 3200000 in
theorem tapePlays_law (x : Int) (A : Option Addr) (n c : Nat) (L : List TAct) (w : World) (hx0 : -9223372036854775808 ≤ x) (hx1 : x ≤ 9223372036854775807) (hL : Acts w A n L) (hn : n ≤ 9223372036854775807) :
    Calls Try.prog 21 #[.int .i64 x, .slice A n c] w fun e w' => e = .returned (.bool true) ∧ Below w.heap.size w w' := by
  have HW := Lib.hid (fun w h => few_any A n c L w h hn)
  by_cases hF : fewB L = true
  · rw [hF] at HW
    clear hF
    by_cases hx : x < 0 ∨ 1048576 < x
    · have HN := Lib.hid (fun w => new_bad x hx w)
      rcases hx with hx | hx
      · go_enter Try.func21, Try.ntmps21
        go_wp2_with (first
          | (go_at_call 49; refine (awake17_any _).mono ?_; rintro e w1 ⟨rfl, hb1⟩)
          | (go_at_call 50; refine (HW.out _ (hL.below hb1)).mono ?_; rintro e w2 ⟨rfl, rfl⟩)
          | (go_at_call 51; refine (HN.out _).mono ?_; rintro e w2 ⟨rfl, rfl⟩))
        go_ret
        exact ⟨rfl, hb1⟩
      · have hx' : ¬ x < 0 := by omega
        go_enter Try.func21, Try.ntmps21
        go_wp2_with (first
          | (go_at_call 49; refine (awake17_any _).mono ?_; rintro e w1 ⟨rfl, hb1⟩)
          | (go_at_call 50; refine (HW.out _ (hL.below hb1)).mono ?_; rintro e w2 ⟨rfl, rfl⟩)
          | (go_at_call 51; refine (HN.out _).mono ?_; rintro e w2 ⟨rfl, rfl⟩))
        go_ret
        exact ⟨rfl, hb1⟩
    · obtain ⟨cap, rfl⟩ : ∃ cap : Nat, x = cap := ⟨x.toNat, by omega⟩
      have hcap : cap ≤ 1048576 := by omega
      clear hx hx0 hx1
      go_enter Try.func21, Try.ntmps21
      go_wp2_with (first
        | (go_at_call 49; refine (awake17_any _).mono ?_; rintro e w1 ⟨rfl, hb1⟩)
        | (go_at_call 50; refine (HW.out _ (hL.below hb1)).mono ?_; rintro e w2 ⟨rfl, rfl⟩)
        | (go_at_call 51; refine (new_ok cap hcap _).mono ?_; rintro e w2 ⟨p, rfl, hp, ht, hb2⟩)
        | (go_at_call 57; refine (refnew_any _ _).mono ?_; rintro e w3 ⟨rfl, hb3⟩)
        | (go_at_call 58; refine (is_new p cap _ ((ht.below hb3).alloc _)).mono ?_; rintro e w4 ⟨rfl, hb4⟩))
      have hp1 := hb1.size
      have hbw3 : Below w.heap.size w w3 := chain (chain hb1 hb2) hb3
      have hq : p < w3.heap.size := Nat.lt_of_lt_of_le ht.lt hb3.size
      have hQ := (Cells.new w3 77 _).below hb4
      have ht4 := ((ht.below hb3).alloc (.cells #[.int .i64 (cap : Int), .slice none 0 0, .int .i64 0, .int .i64 (-1), .bool false] 77)).below hb4
      have hbw4 : Below w.heap.size w w4 := (bl_alloc hbw3 _).trans (hb4.mono (bl_alloc hbw3 _).size)
      have hqw := hbw3.size
      have hwp : w.heap.size ≤ p := by omega
      obtain ⟨q, hq0⟩ : ∃ q, w3.heap.size = q := ⟨_, rfl⟩
      rw [hq0]
      rw [hq0] at hq hQ hqw
      clear hq0 hb1 hb2 hb3 hb4 hp hp1 ht hbw3
      go_loopw [8, 9, 10, 48] (fun v8 v9 v10 v48 wr => ∃ (k : Nat) (s : TS), k ≤ n ∧ v48 = .int .i64 k ∧ Both wr w.heap.size p q s ∧ Below w.heap.size w wr) (fun _ _ _ v48 _ => n - (intOf v48).toNat)
      case atStart => exact ⟨0, TS.new cap, by omega, rfl, ⟨ht4, none, 0, hQ, Own.nil _ _⟩, hbw4⟩
      case round =>
        obtain ⟨k, s, hk, rfl, ⟨hT, A2, c2, hQr, hO⟩, hbel⟩ := hrel
        by_cases hkn : k < n
        · have i0 : (k : Int) < (n : Int) := by omega
          obtain ⟨b, o, a, rfl, _, g0, ⟨A', c', g1, hl, _⟩, g2, g3, hn0, hn1⟩ := (hL.below hbel).at_ hkn
          have hbn := cell_lt g0
          have hwr := hbel.size
          have HM := Lib.hid (fun W ho hl hB => model_any w.heap.size s a A2 c2 A' c' W hT.ok ho hl hB)
          have HA := Lib.hid (fun W h hl => act_any p s a A' c' W h hl hn1)
          generalize hr : s.act a = r at HM HA
          obtain ⟨s2, er⟩ := r
          have n1 : ((er : Int) != (er : Int)) = false := by simp
          obtain ⟨d0, d1, d2, d3, d4, _⟩ := five hQr
          clear hr
          have hqr := hQr.lt
          have ne1 : wr.heap.size ≠ q := by omega
          have ne2 : wr.heap.size ≠ b := by omega
          have ne3 : q ≠ wr.heap.size := by omega
          have ne4 : b ≠ wr.heap.size := by omega
          have HM1 := Lib.hid (HM.out wr.drew hO.drew (Bs.drew hl) hwr)
          have HM2 := Lib.hid (fun o => HM.out (wr.alloc o).drew (Own.drew (hO.alloc o)) (Bs.drew (hl.alloc o)) (by simp; omega))
          go_upto_region 12 with fail
          go_cut [9, 10] (fun s9 s10 wx => ∃ (t : Nat) (A3 : Option Addr) (c3 : Nat), s9 = .pointer (some ⟨t, 0, none⟩) ∧ s10 = .int .i64 (er : Int) ∧ wr.heap.size ≤ t ∧ Cells wx t 77 (tcells s2 A3 c3) ∧ Own wx w.heap.size (.slice A3 s2.b.length c3) s2.b ∧ Below wr.heap.size wr wx)
          case first =>
            go_region_held3 (fun w' => w'.cell? ⟨q, 0, none⟩ = some (.int .i64 (s.cap : Int)) ∧ w'.cell? ⟨q, 1, none⟩ = some (.slice A2 s.b.length c2) ∧ w'.cell? ⟨q, 2, none⟩ = some (.int .i64 (s.safe : Int)) ∧ w'.cell? ⟨q, 3, none⟩ = some (.int .i64 s.fuse) ∧ w'.cell? ⟨q, 4, none⟩ = some (.bool s.lost) ∧ w'.cell? ⟨b, o + k * 4, none⟩ = some (.int .u8 (a.kind.toNat : Int)) ∧ w'.cell? ⟨b, o + k * 4 + 1, none⟩ = some (.slice A' a.l.length c') ∧ w'.cell? ⟨b, o + k * 4 + 2, none⟩ = some (.int .i64 a.n) ∧ w'.cell? ⟨b, o + k * 4 + 3, none⟩ = some (.int .u8 (a.y.toNat : Int))) (go_keep)
              ((go_at_call 59; first
                | ((with_reducible refine HM1.out.mono ?_); rintro e w5 ⟨A3, c3, rfl, hown, hb5, _⟩; unfold refv; have hB5 := draw_way hb5; obtain ⟨u0, u1, u2, u3, u4, u5, u6, u7, u8⟩ := keep9 hB5 d0 d1 d2 d3 d4 g0 g1 g2 g3; have HB5 := Lib.hid hB5; clear hb5 hB5)
                | ((with_reducible refine (HM2.out _).mono ?_); rintro e w5 ⟨A3, c3, rfl, hown, hb5, _⟩; unfold refv; obtain ⟨hZ, hz5, hB5⟩ := alloc_way hb5; obtain ⟨u0, u1, u2, u3, u4, u5, u6, u7, u8⟩ := keep9 hB5 d0 d1 d2 d3 d4 g0 g1 g2 g3; obtain ⟨z0, z1, z2, z3, z4, zf⟩ := five hZ; have HB5 := Lib.hid hB5; clear hb5 hB5)))
            · go_wp2_with fail
              go_meet
              exact ⟨w5.heap.size, A3, c3, rfl, rfl, HB5.out.size, Cells.new w5 _ _, hown.alloc _, bl_alloc HB5.out _⟩
            · go_wp2_with fail
              go_meet
              exact ⟨wr.heap.size, A3, c3, rfl, rfl, Nat.le_refl _, ((((hZ.store 0 _).store 1 _).store 2 _).store 3 _).store 4 _, hown.grown (only_store (only_store (only_store (only_store (only_store (only_refl w5 (some wr.heap.size)) 0 _) 1 _) 2 _) 3 _) 4 _) hZ ref_ne, bl_set (bl_set (bl_set (bl_set (bl_set HB5.out (Nat.le_refl _) _) (Nat.le_refl _) _) (Nat.le_refl _) _) (Nat.le_refl _) _) (Nat.le_refl _) _⟩
          case rest =>
            obtain ⟨t, A3, c3, rfl, rfl, ht0, hTc, hown, hbx⟩ := hcut
            have hTx := hT.below hbx
            have hlx := hl.below hbx
            have hplt := hT.lt
            have htp : t ≠ p := by omega
            have hqp : q ≠ p := by omega
            have hQx := hQr.below hbx
            obtain ⟨u0, u1, u2, u3, u4, u5, u6, u7, u8⟩ := keep9 hbx d0 d1 d2 d3 d4 g0 g1 g2 g3
            have hbw : Below w.heap.size w wc := chain hbel hbx
            clear d0 d1 d2 d3 d4 g0 g1 g2 g3 HM HM1 HM2 ne1 ne2 ne3 ne4 hQr hO
            go_wp2_with (first
              | (go_at_call 53; refine (HA.out _ hTx hlx).mono ?_; rintro e w6 ⟨rfl, ht6⟩; have hX6 := hTc.grown ht6.only (by simpa using htp); have hQ6 := hQx.grown ht6.only (by simpa using hqp); have hO6 := hown.tape hTx ht6.only; obtain ⟨z0, z1, z2, z3, z4, _⟩ := five hX6)
              | (go_at_call 58; refine (is_any p s2 A3 c3 _ ht6.tape hO6.bs).mono ?_; rintro e w7 ⟨rfl, hb7⟩; have hX7 := hX6.below hb7; have hQ7 := hQ6.below hb7; have hO7 := hO6.below hb7; obtain ⟨y0, y1, y2, y3, y4, _⟩ := five hX7; obtain ⟨x0, x1, x2, x3, x4, xf⟩ := five hQ7))
            have hb6 : Below w.heap.size w w6 := below_only hbw ht6.only hwp hTx.lt
            have hb8 : Below w.heap.size w w7 := chain hb6 hb7
            exact ⟨⟨k + 1, s2, by omega, by go_num, both_next (ht6.tape.below hb7) hQ7 hO7 hqp.symm, bl_set (bl_set (bl_set (bl_set (bl_set hb8 hqw _) hqw _) hqw _) hqw _) hqw _⟩, by simp [intOf]; omega⟩
        · go_wp2
          go_ret
          exact ⟨rfl, hbel⟩
  · have hF' : fewB L = false := by simpa using hF
    rw [hF'] at HW
    clear hF hF'
    go_enter Try.func21, Try.ntmps21
    go_wp2_with (first
      | (go_at_call 49; have hb0 := hb1; refine (awake17_any _).mono ?_; rintro e w2 ⟨rfl, hb2⟩)
      | (go_at_call 49; refine (awake17_any _).mono ?_; rintro e w1 ⟨rfl, hb1⟩)
      | (go_at_call 50; refine (HW.out _ (hL.below hb1)).mono ?_; rintro e w2 ⟨rfl, rfl⟩))
    go_ret
    exact ⟨rfl, chain hb1 hb2⟩
end Go.Proofs.Ytcgdkfhfchkdlaa
