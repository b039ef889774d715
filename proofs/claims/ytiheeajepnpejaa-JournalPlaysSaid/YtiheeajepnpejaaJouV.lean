/- The reference's journal (a value): Open of a tape that is not lost, walked. -/
import Derived.Test.YtiheeajepnpejaaJouU
import Derived.Test.YtiheeajepnpejaaTapQ
namespace Go.Proofs.Ytiheeajepnpejaa
open Go.RowKit TapM FrameM JouM
theorem Bs.ne_six {w : World} {B A : Option Addr} {m k c p : Nat} {t : TypeId} {l : List UInt8} {a0 a2 a3 a5 : Int} {a4 : Bool} (h : Bs w B m l) (hC : Cells w p t #[.int .i64 a0, .slice A k c, .int .i64 a2, .int .i64 a3, .bool a4, .int .i64 a5]) :
    ∀ b o, B = some ⟨b, o, none⟩ → 0 < m → b ≠ p := by
  intro b o hB hm hbp
  subst hB hbp
  obtain ⟨b', o', e, hc⟩ := h.at_ hm
  injection e with e
  injection e with e1 e2
  subst e1 e2
  rw [hC.cell, Nat.add_zero] at hc
  rcases o with _ | _ | _ | _ | _ | _ | o <;> simp at hc
/-- Six stores into one block. -/
def set6 (w : World) (p : Nat) (u0 u1 u2 u3 u4 u5 : Value) : World := (((((w.setCell ⟨p, 0, none⟩ u0).setCell ⟨p, 1, none⟩ u1).setCell ⟨p, 2, none⟩ u2).setCell ⟨p, 3, none⟩ u3).setCell ⟨p, 4, none⟩ u4).setCell ⟨p, 5, none⟩ u5
theorem only_set6 (w : World) (p : Nat) (u0 u1 u2 u3 u4 u5 : Value) : w.grownBy (set6 w p u0 u1 u2 u3 u4 u5) (some p) :=
  only_store (only_store (only_store (only_store (only_store (only_store (only_refl w (some p)) 0 _) 1 _) 2 _) 3 _) 4 _) 5 _
theorem Cells.set6 {w : World} {p : Nat} {t : TypeId} {a0 a1 a2 a3 a4 a5 : Value} (h : Cells w p t #[a0, a1, a2, a3, a4, a5]) (u0 u1 u2 u3 u4 u5 : Value) : Cells (set6 w p u0 u1 u2 u3 u4 u5) p t #[u0, u1, u2, u3, u4, u5] :=
  (((((h.store 0 u0).store 1 u1).store 2 u2).store 3 u3).store 4 u4).store 5 u5
theorem Bs.ne_five {w : World} {B A : Option Addr} {m k c p : Nat} {t : TypeId} {l : List UInt8} {a0 a2 a3 : Int} {a4 : Bool} (h : Bs w B m l) (hC : Cells w p t #[.int .i64 a0, .slice A k c, .int .i64 a2, .int .i64 a3, .bool a4]) :
    ∀ b o, B = some ⟨b, o, none⟩ → 0 < m → b ≠ p := by
  intro b o hB hm hbp
  subst hB hbp
  obtain ⟨b', o', e, hc⟩ := h.at_ hm
  injection e with e
  injection e with e1 e2
  subst e1 e2
  rw [hC.cell, Nat.add_zero] at hc
  rcases o with _ | _ | _ | _ | _ | o <;> simp at hc
theorem Rws.grown {w w' : World} {A : Option Addr} {n p : Nat} {L : List (List UInt8)} (h : Rws w A n L) (hg : w.grownBy w' (some p)) (hne : ∀ b o, A = some ⟨b, o, none⟩ → b ≠ p) (hbs : ∀ B m l, Bs w B m l → ∀ b o, B = some ⟨b, o, none⟩ → 0 < m → b ≠ p) : Rws w' A n L := by
  refine ⟨h.1, h.2.imp id ?_⟩
  rintro ⟨b, o, hA, hc⟩
  refine ⟨b, o, hA, fun j hj => ?_⟩
  obtain ⟨A', c', h1, h2, h3⟩ := hc j hj
  exact ⟨A', c', hg.cell h1 (by intro e; injection e with e; exact hne b o hA e), h2.only hg (hbs _ _ _ h2), h3⟩
theorem ref_end {w wc : World} {B R c2 b0 o0 c5 c6 k0 d0 : Nat} {s : TS} {y : List UInt8} {ys : List (List UInt8)} {A2 A5 A6 A0 : Option Addr} {a0 a2 a3 a5 : Int} {a4 : Bool} {u0 u1 u2 u3 u4 u5 : Value}
    (hox : Own wc B (.slice A2 s.b.length c2) s.b) (hRx : Cells wc R 36 #[.int .i64 a0, .slice A0 k0 d0, .int .i64 a2, .int .i64 a3, .bool a4, .int .i64 a5]) (hbwx : Below w.heap.size w wc) (hR : w.heap.size ≤ R)
    (hws : Rws wc (some ⟨b0, o0, none⟩) (ys.length + 1) (y :: ys)) (hB5 : Bs wc A5 y.length y) (hb0 : ¬ b0 = R) (hA : 1 < ys.length + 1 → A6 = some ⟨b0, o0 + 1, none⟩) :
    RefOpened w B (s, y :: ys, 0) (.returned (.tuple #[refj s ys.length A2 c2, .slice A5 y.length c5, .slice A6 ys.length c6, .int .i64 0])) (set6 wc R u0 u1 u2 u3 u4 u5).drew := by
  have hg := only_set6 wc R u0 u1 u2 u3 u4 u5
  have hb : Below w.heap.size w (set6 wc R u0 u1 u2 u3 u4 u5) := below_only hbwx hg hR hRx.lt
  have hO := hox.grown hg hRx jref_ne
  have hw : Rws (set6 wc R u0 u1 u2 u3 u4 u5) (some ⟨b0, o0, none⟩) (ys.length + 1) (y :: ys) :=
    hws.grown hg (fun b o e => by injection e with e; injection e with e; rw [← e]; exact hb0) (fun _ _ _ h => h.ne_six hRx)
  refine ⟨A2, c2, hO.drew, hb.drew, .inl ⟨rfl, A5, c5, A6, c6, y, ys, rfl, rfl, Bs.drew (hB5.only hg (hB5.ne_six hRx)), ?_⟩⟩
  exact Rws.drew (hw.tail A6 hA)
/-- An empty literal. -/
theorem own_lit0 (w1 : World) : Own (w1.alloc (.cells #[] 5)) w1.heap.size (.slice (some ⟨w1.heap.size, 0, none⟩) 0 0) [] := Own.lit w1 [] (Nat.le_refl _) (by decide)
set_option maxRecDepth 100000 in
set_option maxHeartbeats 6400000 in
theorem refopen_main (B : Nat) (s : TS) (A : Option Addr) (c : Nat) (X : Option Addr) (m d : Nat) (base : List UInt8) (w : World) (hok : s.Ok) (ho : Own w B (.slice A s.b.length c) s.b) (hb : Bs w X m base) (hm : ¬ 60000 < m) (hl : s.lost = false) (hs : s.b.length ≤ 1000000) (hB : B ≤ w.heap.size) :
    Calls Try.prog 30 #[.agg #[.int .i64 (s.cap : Int), .slice A s.b.length c, .int .i64 (s.safe : Int), .int .i64 s.fuse, .bool s.lost], .slice X m d] w (RefOpened w B (opened s base)) := by
  obtain ⟨r, hp⟩ := recs_spec s.b
  have hcap := ho.room
  have HS := Lib.hid (fun W hb => refscan_any A s.b.length c s.b W hb (by omega) hcap hp)
  have HLL := Lib.hid (show m = base.length from hb.1.symm)
  have h8 := framed_length_le (recs s.b)
  have hfit := recs_fit s.b
  have HN := Lib.hid (base1_ne s.b base)
  have HE : Hid (recs s.b = [] → base1 s.b base = [base]) := fun h => by unfold base1; rw [if_pos h]
  have HE2 : Hid (¬ recs s.b = [] → base1 s.b base = recs s.b) := fun h => by unfold base1; rw [if_neg h]
  have HX := Lib.hid (fun x (h : x ∈ base1 s.b base) => base1_short (by rw [hb.1]; omega) h)
  have hO : opened s base = if (framed (recs s.b)).length = 0 ∨ (framed (recs s.b)).length < s.b.length then
    if (s.replace (framed (base1 s.b base))).2 = 0 then ((s.replace (framed (base1 s.b base))).1, base1 s.b base, 0)
    else ((s.replace (framed (base1 s.b base))).1, [], (s.replace (framed (base1 s.b base))).2)
    else (s, base1 s.b base, 0) := by
    unfold opened
    rw [if_neg (by rw [hb.1]; exact hm), if_neg (by simp [hl])]
  obtain ⟨res, hres⟩ : ∃ res, opened s base = res := ⟨_, rfl⟩
  rw [hres]
  have HO := Lib.hid (hO.symm.trans hres)
  clear hO hres
  have hlen1 : (framed (base1 s.b base)).length ≤ 1060008 := by
    unfold base1
    split
    · rw [framed_one, hb.1]; omega
    · omega
  have HRf := Lib.hid (fun A9 n9 c9 W h => refframed_any A9 n9 c9 (base1 s.b base) W h HX.out (by omega))
  have HRp := Lib.hid (fun A2 n2 c2 W ho h hB => refreplace_any B s A c A2 n2 c2 (framed (base1 s.b base)) W hok ho h hB)
  obtain ⟨N, hN⟩ : ∃ N, s.b.length = N := ⟨_, rfl⟩
  obtain ⟨K, hK⟩ : ∃ K, (framed (recs s.b)).length = K := ⟨_, rfl⟩
  obtain ⟨nx, hnx⟩ : ∃ nx, (recs s.b).length = nx := ⟨_, rfl⟩
  have HNX := Lib.hid hnx
  rw [hK] at HS h8 hfit HO
  rw [hnx] at HS h8
  rw [hN] at HS HO hfit hcap hs ho HRp
  clear hp
  generalize recs s.b = xs at *
  generalize base1 s.b base = ys at *
  rw [hl] at HRp ⊢
  generalize hrr : s.replace (framed ys) = rr at *
  obtain ⟨⟨cap2, b2, safe2, fuse2, lost2⟩, er⟩ := rr
  obtain ⟨cap, b, safe, fuse, lost⟩ := s
  simp only at ho hN hl HRp ⊢
  clear hrr hok hK hnx
  subst hN hl
  go_enter Try.func30, Try.ntmps30
  go_upto_if 28 with (go_at_call 42; refine (HS.out _ ((ho.bs.alloc _).alloc _)).mono ?_; rintro e w1 ⟨A2, c2, rfl, hrec, hb1⟩)
  obtain ⟨hA, hR, hz1, hbw⟩ := two_boxes2 hb1
  obtain ⟨d0, d1, d2, d3, d4, f1⟩ := five hA
  go_cut [8, 9] (fun s8 s9 wx => ∃ (A3 : Option Addr) (c3 : Nat), s8 = .slice A3 ys.length c3 ∧ s9 = .int .i64 (K : Int) ∧ Rws wx A3 ys.length ys ∧ ys.length ≤ c3 ∧ (∀ b o, A3 = some ⟨b, o, none⟩ → w.heap.size + 1 < b) ∧ Below w1.heap.size w1 wx)
  case first =>
    by_cases hx : nx = 0
    · subst hx
      have hy := HE.out (List.eq_nil_of_length_eq_zero HNX.out)
      subst hy
      go_wp2_with (at_builtin; apply wpList_append_sl (own_lit0 w1) ((hb.below hbw).alloc _) base (.tmp 29) (.tmp 30) rfl rfl rfl rfl rfl m HLL.out.symm; (case hsz => omega); (case hbase => simp); intro A4 c4 w4 hO4 hg4 hg4'; have hb4 := below_append (bl_alloc (Below.refl _ w1) _) (own_lit0 w1) hg4 (by simp))
      go_meet
      have hB4 := hO4.bs
      have hR4 := hO4.room
      rw [HLL.out] at hB4 hR4 ⊢
      exact ⟨some ⟨w4.heap.size, 0, none⟩, 1, rfl, rfl, Rws.lit hB4 hR4, by simp, (fun b o e => by injection e with e; injection e with e; have := hb4.size; omega), bl_alloc hb4 _⟩
    · have hy := HE2.out (fun e => hx (by rw [← HNX.out, e]; rfl))
      subst hy
      have h0 : ((nx : Int) == 0) = false := beq_eq_false_iff_ne.2 (by omega)
      go_wp2
      go_meet
      have hw := hrec.rws
      have hr := hrec.room
      rw [← HNX.out] at hw hr ⊢
      exact ⟨A2, c2, rfl, rfl, hw, hr, (fun b o e => by subst e; have := (hrec.at_block b rfl).1; simp at this; omega), Below.refl _ _⟩
  case rest =>
    obtain ⟨A3, c3, rfl, rfl, hws, hroom, hfar, hbx⟩ := hcut
    obtain ⟨wx, rfl⟩ : ∃ wx : World, wx = wc := ⟨_, rfl⟩
    have hAx := hA.below hbx
    have hRx := hR.below hbx
    have hbwx : Below w.heap.size w wx := chain hbw hbx
    have hox := ho.below hbwx
    clear d0 d1 d2 d3 d4 f1 hA hR hrec hb1 hbw hbx HE HE2 HNX
    obtain ⟨d0, d1, d2, d3, d4, f1⟩ := five hAx
    obtain ⟨r0, r1, r2, r3, r4, r5, f2⟩ := six hRx
    cases ys with
    | nil => exact absurd rfl HN.out
    | cons y ys =>
      clear HN
      have hlen : (y :: ys).length = ys.length + 1 := rfl
      rw [hlen] at hws hroom ⊢
      have hyl : ys.length ≤ 200000 := by
        have := framed_length_le (y :: ys)
        simp at this
        omega
      have i1 : IntKind.i64.wrap ((ys.length : Int) + 1 - 1) = (ys.length : Int) := by rw [IntWalk.i64_in _ (by omega)]; omega
      have i3 : (1 : Int) ≤ (ys.length : Int) + 1 := by omega
      by_cases hr : K = 0 ∨ K < b.length
      · have HRes1 : Hid _ := (if_pos hr).symm.trans HO.out
        clear HO
        go_upto_region 9 with fail
        go_cut [41] (fun s41 wy => s41 = .bool true ∧ wy = wx)
        case first =>
          rcases hr with h0 | h0
          · have e1 : ((K : Int) == 0) = true := by rw [h0]; rfl
            go_wp2
            go_meet
            exact ⟨rfl, rfl⟩
          · by_cases hK0 : K = 0
            · have e1 : ((K : Int) == 0) = true := by rw [hK0]; rfl
              go_wp2
              go_meet
              exact ⟨rfl, rfl⟩
            · have e1 : ((K : Int) == 0) = false := beq_eq_false_iff_ne.2 (by omega)
              have e2 : (K : Int) < (b.length : Int) := by omega
              go_wp2
              go_meet
              exact ⟨by simp, rfl⟩
        case rest =>
          obtain ⟨rfl, rfl⟩ := hcut
          have HRf1 := Lib.hid (HRf.out A3 _ c3 wc.drew hws.drew)
          obtain ⟨wx, rfl⟩ : ∃ wx : World, wx = wc := ⟨_, rfl⟩
          clear HRf
          go_upto_region 10 with fail
          go_cut [10] (fun s10 wy => ∃ (A6 : Option Addr) (c6 : Nat), s10 = .int .i64 (er : Int) ∧ Cells wy w.heap.size 30 #[.int .i64 (cap2 : Int), .slice A6 b2.length c6, .int .i64 (safe2 : Int), .int .i64 fuse2, .bool lost2] ∧ Own wy B (.slice A6 b2.length c6) b2 ∧ wx.grownBy wy (some w.heap.size))
          case first =>
            go_region_with ((first
              | (go_at_call 43; (with_reducible refine HRf1.out.mono ?_); rintro e w5 ⟨A7, c7, rfl, hO7, hb7⟩; have hB7 := draw_way hb7; have hA7 := hAx.below hB7; obtain ⟨x0, x1, x2, x3, x4, xf⟩ := five hA7; have hox7 := hox.below hB7)
              | (go_at_call 9; (with_reducible refine (HRp.out A7 _ c7 _ hox7 hO7.bs (by have := hbwx.size; have := hB7.size; omega)).mono ?_); rintro e w6 ⟨A6, c6, rfl, hown, hb6, _⟩; unfold refv; have hA6 := hA7.below hb6; have hB6 := chain hB7 hb6; obtain ⟨z0, z1, z2, z3, z4, zf⟩ := five hA6)))
            all_goals go_wp2_with fail
            all_goals go_meet
            all_goals have hG := only_set5 w6 w.heap.size (.int .i64 (cap2 : Int)) (.slice A6 b2.length c6) (.int .i64 (safe2 : Int)) (.int .i64 fuse2) (.bool lost2)
            all_goals exact ⟨A6, c6, rfl, ((((hA6.store 0 _).store 1 _).store 2 _).store 3 _).store 4 _, hown.grown hG hA6 ref_ne, only_trans (only_of hB6 _) hG⟩
          case rest =>
            obtain ⟨A6, c6, rfl, hAz, hoz, hgz⟩ := hcut
            have hRz := hRx.grown hgz (by simp)
            have hwsz := hws.grown hgz (fun b o e => by have := hfar b o e; omega) (fun _ _ _ h => h.ne_five hAx)
            have hbwz : Below w.heap.size w wc := below_only hbwx hgz (Nat.le_refl _) hAx.lt
            clear HRf1 HRp HX hr hlen1 d0 d1 d2 d3 d4 f1 r0 r1 r2 r3 r4 r5 f2 hws hbwx hgz hAx hRx hox
            obtain ⟨d0, d1, d2, d3, d4, f1⟩ := five hAz
            obtain ⟨r0, r1, r2, r3, r4, r5, f2⟩ := six hRz
            by_cases he : er = 0
            · subst he
              have HRes : Hid _ := (if_pos rfl).symm.trans HRes1.out
              clear HRes1
              obtain ⟨b0, o0, A5, c5, x', e5, hx', hc5, hB5, _⟩ := hwsz.at_ (j := 0) (by simp)
              subst e5
              have hb0 := hfar b0 o0 rfl
              have n1 : ¬ b0 = w.heap.size + 1 := by omega
              have n2 : ¬ w.heap.size + 1 = b0 := by omega
              clear hfar
              obtain rfl : y = x' := by simpa using hx'
              rw [Nat.add_zero] at hc5
              clear hx'
              by_cases hc1 : c3 = 1
              · subst hc1
                have HX0 := Lib.hid (show ys.length = 0 by omega)
                go_wp2
                go_region
                go_wp2
                refine bodyPost_ret (v := .tuple #[.agg #[.int .i64 (cap2 : Int), .slice A6 b2.length c6, .int .i64 (safe2 : Int), .int .i64 fuse2, .bool lost2, .int .i64 (ys.length : Int)], .slice A5 y.length c5, .slice (some ⟨b0, o0, none⟩) 0 0, .int .i64 0]) (by simp [results, Try.results30, go_sem, *]) rfl ?_
                obtain rfl : ys = [] := List.eq_nil_of_length_eq_zero HX0.out
                rw [← HRes.out]
                exact ref_end (s := ⟨cap2, b2, safe2, fuse2, lost2⟩) hoz hRz hbwz (by omega) hwsz hB5 n1 (fun h => absurd h (by simp))
              · have i2 : (1 : Int) ≤ (c3 : Int) := by omega
                go_wp2
                go_region
                go_wp2
                refine bodyPost_ret (v := .tuple #[.agg #[.int .i64 (cap2 : Int), .slice A6 b2.length c6, .int .i64 (safe2 : Int), .int .i64 fuse2, .bool lost2, .int .i64 (ys.length : Int)], .slice A5 y.length c5, .slice (some ⟨b0, o0 + 1, none⟩) ys.length (c3 - 1), .int .i64 0]) (by simp [results, Try.results30, go_sem, *]) rfl ?_
                rw [← HRes.out]
                exact ref_end (s := ⟨cap2, b2, safe2, fuse2, lost2⟩) hoz hRz hbwz (by omega) hwsz hB5 n1 (fun _ => rfl)
            · have HRes : Hid _ := (if_neg he).symm.trans HRes1.out
              have he1 : ((er : Int) != 0) = true := by rw [bne_iff_ne]; omega
              clear HRes1
              go_wp2
              refine bodyPost_ret (v := .tuple #[.agg #[.int .i64 (cap2 : Int), .slice A6 b2.length c6, .int .i64 (safe2 : Int), .int .i64 fuse2, .bool lost2, .int .i64 0], .slice none 0 0, .slice none 0 0, .int .i64 (er : Int)]) (by simp [results, Try.results30, go_sem, *]) rfl ?_
              rw [← HRes.out]
              have hG := only_set6 wc (w.heap.size + 1) (.int .i64 (cap2 : Int)) (.slice A6 b2.length c6) (.int .i64 (safe2 : Int)) (.int .i64 fuse2) (.bool lost2) (.int .i64 0)
              exact ⟨A6, c6, hoz.grown hG hRz jref_ne, below_only hbwz hG (by omega) hRz.lt, .inr ⟨he, rfl⟩⟩
      · have HRes : Hid _ := (if_neg hr).symm.trans HO.out
        clear HO
        have e1 : ((K : Int) == 0) = false := beq_eq_false_iff_ne.2 (fun e => hr (.inl (by omega)))
        have k2 : ¬ K < b.length := fun e => hr (.inr e)
        clear HRf HRp HX hr hlen1
        obtain ⟨b0, o0, A5, c5, x', e5, hx', hc5, hB5, _⟩ := hws.at_ (j := 0) (by simp)
        subst e5
        have hb0 := hfar b0 o0 rfl
        have n1 : ¬ b0 = w.heap.size + 1 := by omega
        have n2 : ¬ w.heap.size + 1 = b0 := by omega
        clear hfar
        obtain rfl : y = x' := by simpa using hx'
        rw [Nat.add_zero] at hc5
        clear hx'
        by_cases hc1 : c3 = 1
        · subst hc1
          have HX0 := Lib.hid (show ys.length = 0 by omega)
          go_wp2
          go_region
          go_wp2
          refine bodyPost_ret (v := .tuple #[.agg #[.int .i64 (cap : Int), .slice A b.length c, .int .i64 (safe : Int), .int .i64 fuse, .bool false, .int .i64 (ys.length : Int)], .slice A5 y.length c5, .slice (some ⟨b0, o0, none⟩) 0 0, .int .i64 0]) (by simp [results, Try.results30, go_sem, *]) rfl ?_
          obtain rfl : ys = [] := List.eq_nil_of_length_eq_zero HX0.out
          rw [← HRes.out]
          exact ref_end (s := ⟨cap, b, safe, fuse, false⟩) hox hRx hbwx (by omega) hws hB5 n1 (fun h => absurd h (by simp))
        · have i2 : (1 : Int) ≤ (c3 : Int) := by omega
          go_wp2
          go_region
          go_wp2
          refine bodyPost_ret (v := .tuple #[.agg #[.int .i64 (cap : Int), .slice A b.length c, .int .i64 (safe : Int), .int .i64 fuse, .bool false, .int .i64 (ys.length : Int)], .slice A5 y.length c5, .slice (some ⟨b0, o0 + 1, none⟩) ys.length (c3 - 1), .int .i64 0]) (by simp [results, Try.results30, go_sem, *]) rfl ?_
          rw [← HRes.out]
          exact ref_end (s := ⟨cap, b, safe, fuse, false⟩) hox hRx hbwx (by omega) hws hB5 n1 (fun _ => rfl)
end Go.Proofs.Ytiheeajepnpejaa
