/- The law TapeOwn of layer 17, walked: it answers true, whatever befell the tape, whatever befalls its clone. -/
import Derived.Test.YtcgdkfhfchkdlaaTapQ
import Derived.Test.YtcgdkfhfchkdlaaTapS
import Derived.Deep.RegionWith
namespace Go.Proofs.Ytcgdkfhfchkdlaa
open Go.RowKit TapM
/-- The bytes of the tape at p don't lie in the row. -/
def Apart (w : World) (p : Nat) (row : Option Nat) : Prop := ∀ v, w.cell? ⟨p, 1, none⟩ = some v → v.ownBlock = none ∨ v.ownBlock ≠ row
section
variable {w w' W : World} {p q : Nat} {s : TS} {row : Option Nat}
theorem Apart.new (h : TapeAt w p s) (hrow : ∀ g, row = some g → w.heap.size ≤ g) : Apart w p row := by
  intro v hv
  obtain ⟨A, c, hC, ho⟩ := h.open_
  have e : some (Value.slice A s.b.length c) = some v := (hC.cell 1).symm.trans hv
  injection e with e
  subst e
  cases hb : (Value.slice A s.b.length c).ownBlock with
  | none => exact .inl rfl
  | some g =>
    right
    intro e
    have h1 := (ho.at_block g hb).2
    have h2 := hrow g e.symm
    omega
theorem Apart.turned (h : Apart w p row) (ht : Turned w w' p s) (hrow : ∀ g, row = some g → g < w.heap.size) : Apart w' p row := by
  intro v hv
  cases row with
  | none => cases hb : v.ownBlock <;> simp
  | some g => exact .inr (ht.keeps g (hrow g rfl) (fun v' hv' => (h v' hv').elim (fun e => by rw [e]; simp) id) v hv)
theorem Apart.cell (h : Apart w p row) (hc : w'.cell? ⟨p, 1, none⟩ = w.cell? ⟨p, 1, none⟩) : Apart w' p row := fun v hv => h v (hc.symm.trans hv)
theorem TapeAt.rowed (h : TapeAt w p s) (hg : w.grownBy w' row) (hp : some p ≠ row) (ha : Apart w p row) : TapeAt w' p s := by
  obtain ⟨h0, A, c, hc, ho⟩ := h
  exact ⟨h0, A, c, hc.grown hg hp, ho.kept hg (ha _ (hc.cell 1))⟩
end
theorem read_any (p : Nat) (s : TS) (w : World) (h : TapeAt w p s) :
    Calls Try.prog 60 #[.pointer (some ⟨p, 0, none⟩)] w fun e w' => ∃ A2 n c2 l er, e = .returned (.tuple #[.slice A2 n c2, .int .i64 er]) ∧ Own w' w.heap.size (.slice A2 n c2) l ∧ Below w.heap.size w w' := by
  cases hl : s.lost with
  | true =>
    refine (read_lost p s w h hl).mono ?_
    rintro e w' ⟨rfl, rfl⟩
    exact ⟨none, 0, 0, [], 9, rfl, Own.nil _ _, Below.refl _ _⟩
  | false =>
    refine (read_on p s w h hl).mono ?_
    rintro e w' ⟨A2, c2, rfl, ho, hb⟩
    exact ⟨A2, _, c2, s.b, 0, rfl, ho, hb⟩
theorem four {w : World} {p : Nat} {t : TypeId} {a0 a1 a2 a3 : Value} (h : Cells w p t #[a0, a1, a2, a3]) :
    w.cell? ⟨p, 0, none⟩ = some a0 ∧ w.cell? ⟨p, 1, none⟩ = some a1 ∧ w.cell? ⟨p, 2, none⟩ = some a2 ∧ w.cell? ⟨p, 3, none⟩ = some a3 ∧ ∀ i, w.frozen? ⟨p, i, none⟩ = false :=
  ⟨h.cell 0, h.cell 1, h.cell 2, h.cell 3, h.free⟩
theorem Own.small {w : World} {base n c : Nat} {A : Option Addr} {l : List UInt8} (h : Own w base (.slice A n c) l) : n ≤ 9223372036854775807 := by
  have hl := h.length
  rcases h.2 with ⟨e, e2⟩ | ⟨g, cap, cur, e, hb, hg, hc, hm, _⟩
  · omega
  · unfold maxLen at hm
    omega
theorem act_ne : (71 : TypeId) ≠ 5 := by decide
set_option maxRecDepth 100000 in
set_option maxHeartbeats 4000000 in
theorem tapeOwn_law (A : Option Addr) (n c : Nat) (L : List TAct) (A1 : Option Addr) (n1 c1 : Nat) (L1 : List TAct) (w : World) (hL : Acts w A n L) (hn : n ≤ 9223372036854775807) (hL1 : Acts w A1 n1 L1) (hn1 : n1 ≤ 9223372036854775807) :
    Calls Try.prog 23 #[.slice A n c, .slice A1 n1 c1] w fun e w' => e = .returned (.bool true) ∧ Below w.heap.size w w' := by
  have HW := Lib.hid (fun w h => few_any A n c L w h hn)
  have HW1 := Lib.hid (fun w h => few_any A1 n1 c1 L1 w h hn1)
  by_cases hF : fewB L = true
  · by_cases hF1 : fewB L1 = true
    · rw [hF] at HW
      rw [hF1] at HW1
      have HF := Lib.hid (fewB_true hF)
      clear hF hF1
      go_enter Try.func23, Try.ntmps23
      go_wp2_with (first
        | (go_at_call 49; refine (awake17_any _).mono ?_; rintro e w1 ⟨rfl, hb1⟩)
        | (go_at_call 50; first | (with_reducible refine (HW.out _ (hL.below hb1)).mono ?_; rintro e w2 ⟨rfl, rfl⟩) | (with_reducible refine (HW1.out _ (hL1.below hb1)).mono ?_; rintro e w2 ⟨rfl, rfl⟩))
        | (go_at_call 51; refine (new_at 9000 (by omega) (by omega) _).mono ?_; rintro e w2 ⟨p, rfl, hp, ht, hb2⟩)
        | (go_at_call 57; refine (refnew_any _ _).mono ?_; rintro e w3 ⟨rfl, hb3⟩))
      have hp1 := hb1.size
      have hbw3 : Below w.heap.size w w3 := chain (chain hb1 hb2) hb3
      have hq : p < w3.heap.size := Nat.lt_of_lt_of_le ht.lt hb3.size
      obtain ⟨cp, hcp⟩ : ∃ cp, (9000 : Int).toNat = cp := ⟨_, rfl⟩
      have hcp' : (9000 : Int) = (cp : Int) := by rw [← hcp]; rfl
      rw [hcp] at ht
      have hQ : Cells (w3.alloc (.cells #[.int .i64 9000, .slice none 0 0, .int .i64 0, .int .i64 (-1), .bool false] 77)) w3.heap.size 77 (tcells (TS.new cp) none 0) := by
        rw [hcp']
        exact Cells.new w3 _ _
      have ht4 := (ht.below hb3).alloc (.cells #[.int .i64 9000, .slice none 0 0, .int .i64 0, .int .i64 (-1), .bool false] 77)
      have hbw4 := bl_alloc hbw3 (.cells #[.int .i64 9000, .slice none 0 0, .int .i64 0, .int .i64 (-1), .bool false] 77)
      have hqw := hbw3.size
      have hwp : w.heap.size ≤ p := by omega
      have hO0 : Own (w3.alloc (.cells #[.int .i64 9000, .slice none 0 0, .int .i64 0, .int .i64 (-1), .bool false] 77)) w.heap.size (.slice none (TS.new cp).b.length 0) (TS.new cp).b := Own.nil _ _
      generalize TS.new cp = s0 at hQ ht4 ht hO0
      generalize w3.alloc (.cells #[.int .i64 9000, .slice none 0 0, .int .i64 0, .int .i64 (-1), .bool false] 77) = w4 at *
      obtain ⟨q, hq0⟩ : ∃ q, w3.heap.size = q := ⟨_, rfl⟩
      rw [hq0]
      rw [hq0] at hq hQ hqw
      clear hq0 hcp hcp' hb1 hb2 hb3 hp hp1 ht hbw3
      go_loopw [8, 9, 10, 11, 12, 13, 39] (fun v8 v9 v10 v11 v12 v13 v39 wr => ∃ (k : Nat) (s : TS), k ≤ n ∧ v39 = .int .i64 k ∧ Both wr w.heap.size p q s ∧ Below w.heap.size w wr) (fun _ _ _ _ _ _ v39 _ => n - (intOf v39).toNat)
      case atStart => exact ⟨0, s0, by omega, rfl, ⟨ht4, none, 0, hQ, hO0⟩, hbw4⟩
      case round =>
        obtain ⟨k, s, hk, rfl, ⟨hT, A2, c2, hQr, hO⟩, hbel⟩ := hrel
        by_cases hkn : k < n
        · have i0 : (k : Int) < (n : Int) := by omega
          obtain ⟨b, o, a, rfl, ha, e0, ⟨A', c', e1, el, hlc⟩, e2, e3, hm0, hm1⟩ := hL.at_ hkn
          have g0 := cell_below hbel e0
          have g1 := cell_below hbel e1
          have g2 := cell_below hbel e2
          have g3 := cell_below hbel e3
          have hl := el.below hbel
          have E0 := Lib.hid e0
          have E1 := Lib.hid e1
          have E2 := Lib.hid e2
          have E3 := Lib.hid e3
          clear e0 e1 e2 e3
          have hal := HF.out.len ha
          have hbn := cell_lt g0
          have hwr := hbel.size
          have hqr := hQr.lt
          have hpr := hT.lt
          obtain ⟨r, hr⟩ : ∃ r, wr.heap.size = r := ⟨_, rfl⟩
          have HR := Lib.hid hr
          have hB : TapM.TAct := a
          have HM := Lib.hid (fun W ho hl hB => model_any w.heap.size s a A2 c2 A' c' W hT.ok ho hl hB)
          have HA := Lib.hid (fun A9 c9 W h hl => act_any p s a A9 c9 W h hl hm1)
          generalize hr2 : s.act a = r2 at HM HA
          obtain ⟨s2, er⟩ := r2
          clear hr2 hr hB
          obtain ⟨d0, d1, d2, d3, d4, _⟩ := five hQr
          have hX := Cells.new wr 71 #[.int .u8 (a.kind.toNat : Int), .slice A' a.l.length c', .int .i64 a.n, .int .u8 (a.y.toNat : Int)]
          go_wp2_with (first
            | (at_builtin; apply wpList_append_sl (own_lit1 wr _) ((hl.alloc _).alloc _) a.l (.tmp 46) (.tmp 48) rfl rfl rfl rfl rfl a.l.length rfl; (case hsz => omega); (case hbase => simp); intro A9 c9 w5 hO9 hg9 hg9'; have hb9 := (below_append ((Below.refl _ (wr.alloc _)).alloc (by simp) _) (own_lit1 wr _) hg9 (by simp)); have hX9 := hX.below (hb9.mono (by simp)); have hb9' : Below wr.heap.size wr w5 := (bl_alloc (Below.refl _ wr) _).trans (hb9.mono (by simp)); obtain ⟨x0, x1, x2, x3, xf⟩ := four hX9)
            | (go_at_call 53; have hb5 : Below wr.heap.size wr (w5.setCell ⟨wr.heap.size, 1, none⟩ (.slice A9 a.l.length c9)) := bl_set hb9' (Nat.le_refl _) _; have hT3 := hT.below hb5; have hX3 := hX9.store 1 (.slice A9 a.l.length c9); have hO3 := own_set (i := 1) hO9 (Nat.lt_succ_self _) (.slice A9 a.l.length c9); refine (HA.out A9 c9 _ hT3 hO3.bs).mono ?_; rintro e w6 ⟨rfl, ht6⟩))
          have hrow1 : ∀ g, (Value.slice A9 a.l.length c9).ownBlock = some g → wr.heap.size + 1 ≤ g ∧ g < (w5.setCell ⟨wr.heap.size, 1, none⟩ (.slice A9 a.l.length c9)).heap.size := hO3.at_block
          have hap : Apart w6 p (Value.slice A9 a.l.length c9).ownBlock := ((Apart.new hT fun g hg => by have := (hrow1 g hg).1; omega).cell (hb5.cell (p := ⟨p, 1, none⟩) hpr)).turned ht6 fun g hg => (hrow1 g hg).2
          have hrp : wr.heap.size ≠ p := by omega
          have hqp : q ≠ p := by omega
          have hX6 := hX3.grown ht6.only (by simpa using hrp)
          have hO6 := hO3.tape hT3 ht6.only
          have hQ6 := (hQr.below hb5).grown ht6.only (by simpa using hqp)
          have hP6 := (hO.below hb5).tape hT3 ht6.only
          have hbw6 : Below w.heap.size w w6 := below_only (chain hbel hb5) ht6.only hwp hT3.lt
          have hT6 := ht6.tape
          have hsz6 : wr.heap.size + 1 ≤ w6.heap.size := Nat.le_trans hX3.lt ht6.only.size
          have hg6 : wr.grownBy w6 (some p) := only_trans (only_of hb5 _) ht6.only
          clear ht6 hT3 hO3 hX3 hX9 x0 x1 x2 x3 xf hX hO9 hg9 hg9' hb9 hb9' hb5 d0 d1 d2 d3 d4 g0 g1 g2 g3
          obtain ⟨d0, d1, d2, d3, d4, df⟩ := five hQ6
          obtain ⟨x0, x1, x2, x3, xf⟩ := four hX6
          have g0 := cell_below hbw6 E0.out
          have g1 := cell_below hbw6 E1.out
          have g2 := cell_below hbw6 E2.out
          have g3 := cell_below hbw6 E3.out
          have HM1 := Lib.hid (HM.out w6.drew hP6.drew (Bs.drew (el.below hbw6)) hbw6.size)
          go_upto_region 13 with fail
          go_cut [9] (fun s9 wx => ∃ (A3 : Option Addr) (c3 : Nat), s9 = .pointer (some ⟨wr.heap.size, 0, none⟩) ∧ Cells wx q 77 (tcells s2 A3 c3) ∧ Own wx w.heap.size (.slice A3 s2.b.length c3) s2.b ∧ w6.grownBy wx (some q) ∧ ∀ g, (Value.slice A3 s2.b.length c3).ownBlock = some g → g < wr.heap.size ∨ w6.heap.size ≤ g)
          case first =>
            go_region_with ((go_at_call 59; (with_reducible refine HM1.out.mono ?_); rintro e w7 ⟨A3, c3, rfl, hown, hb7, hfr⟩; unfold refv; have hB7 := draw_way hb7; have hQ7 := hQ6.below hB7; obtain ⟨z0, z1, z2, z3, z4, zf⟩ := five hQ7))
            all_goals go_wp2_with fail
            all_goals go_meet
            all_goals have hG := only_store (only_store (only_store (only_store (only_store (only_refl w7 (some q)) 0 (.int .i64 (s2.cap : Int))) 1 (.slice A3 s2.b.length c3)) 2 (.int .i64 (s2.safe : Int))) 3 (.int .i64 s2.fuse)) 4 (.bool s2.lost)
            all_goals refine ⟨A3, c3, rfl, ((((hQ7.store 0 _).store 1 _).store 2 _).store 3 _).store 4 _, hown.grown hG hQ7 ref_ne, only_trans (only_of hB7 _) hG, fun g hg => ?_⟩
            all_goals
              rcases hfr with ⟨rfl, rfl⟩ | h
              · left
                refine (hO.at_block g ?_).2
                cases A3 with
                | none => simp [Value.ownBlock] at hg
                | some a3 => simpa [Value.ownBlock] using hg
              · exact .inr (h g hg)
          case rest =>
            obtain ⟨A3, c3, rfl, hQx, hPx, hgx, hfx⟩ := hcut
            have hTx := hT6.far hQ6 ref_ne hqp.symm hgx
            have hXx := hX6.grown hgx (by simp; omega)
            have hOx := hO6.grown hgx hQ6 ref_ne
            have hapx : Apart wc p (Value.slice A9 a.l.length c9).ownBlock := hap.cell (World.cell?_of_block (hgx.block p hT6.lt (by simpa using hqp.symm)))
            have hbx : Below w.heap.size w wc := below_only hbw6 hgx hqw hQ6.lt
            have hrow6 : ∀ g, (Value.slice A9 a.l.length c9).ownBlock = some g → wr.heap.size + 1 ≤ g ∧ g < w6.heap.size := hO6.at_block
            obtain ⟨u0, u1, u2, u3, uf⟩ := four hXx
            clear HM1 HM HA hrow1 hap hX6 hO6 hQ6 hP6 hT6 hgx hg6 x0 x1 x2 x3 xf d0 d1 d2 d3 d4 df g0 g1 g2 g3
            generalize hm : a.l.length = m at *
            clear hm
            obtain ⟨wo, rfl⟩ : ∃ wo : World, wo = wr := ⟨_, rfl⟩
            go_wp2
            go_loopw [10, 66] (fun v10 v66 wy => ∃ (i : Nat) (l' : List UInt8), v66 = .int .i64 i ∧ i ≤ m ∧ Own wy (wo.heap.size + 1) (.slice A9 m c9) l' ∧ wc.grownBy wy (Value.slice A9 m c9).ownBlock) (fun _ v66 _ => m - (intOf v66).toNat)
            case atStart => exact ⟨0, _, rfl, by omega, hOx, only_refl _ _⟩
            case round =>
              obtain ⟨i, l', rfl, him, hO', hg'⟩ := hrel
              have hXy := hXx.grown hg' (by intro e; have := (hrow6 _ e.symm).1; omega)
              obtain ⟨y0, y1, y2, y3, yf⟩ := four hXy
              by_cases hi : i < m
              · obtain ⟨g, rfl, hgb, hgl⟩ := hO'.addr (by omega)
                have hl' := hO'.length
                have hc9 := hO'.cell (j := i) (by omega)
                have hf9 := hO'.free i
                have hO2 := hO'.store i 99
                go_wp2
                exact ⟨⟨i + 1, _, by go_num, by omega, hO2, only_store (p := g) hg' i _⟩, by simp [intOf]; omega⟩
              · obtain rfl : i = m := by omega
                have hTy := hTx.rowed hg' (by intro e; have := (hrow6 _ e.symm).1; omega) hapx
                have hQy := hQx.grown hg' (by intro e; have := (hrow6 _ e.symm).1; omega)
                have hPy := hPx.kept hg' (by
                  cases hrw : (Value.slice A9 i c9).ownBlock with
                  | none => cases (Value.slice A3 s2.b.length c3).ownBlock <;> simp
                  | some g =>
                    right
                    intro e
                    have h1 := hrow6 g hrw
                    have h2 := hfx g e
                    omega)
                have hby : Below w.heap.size w wr := hbx.grown hg' hbx.size (fun g hg => by have := (hrow6 g hg).1; omega)
                obtain ⟨wy, rfl⟩ : ∃ wy : World, wy = wr := ⟨_, rfl⟩
                clear hXy y0 y1 y2 y3 yf u0 u1 u2 u3 uf hg' hO' hapx hTx hQx hPx hOx hXx hfx
                go_wp2_with (go_at_call 60; refine (read_any p s2 _ hTy).mono ?_; rintro e w8 ⟨A8, N8, c8, l8, er8, rfl, hO8, hb8⟩)
                go_loopw [13, 81] (fun v13 v81 wz => ∃ (i : Nat) (l' : List UInt8), v81 = .int .i64 i ∧ i ≤ N8 ∧ Own wz wy.heap.size (.slice A8 N8 c8) l' ∧ Below wy.heap.size wy wz) (fun _ v81 _ => N8 - (intOf v81).toNat)
                case atStart => exact ⟨0, _, rfl, by omega, hO8, hb8⟩
                case round =>
                  obtain ⟨i', l', rfl, hiN, hO', hbz⟩ := hrel
                  have hmx := hO'.small
                  by_cases hi : i' < N8
                  · obtain ⟨g, rfl, hgb, hgl⟩ := hO'.addr (by omega)
                    have hl' := hO'.length
                    have hc9 := hO'.cell (j := i') (by omega)
                    have hf9 := hO'.free i'
                    have hO2 := hO'.store i' 98
                    go_wp2
                    exact ⟨⟨i' + 1, _, by go_num, by omega, hO2, bl_set hbz hgb _⟩, by simp [intOf]; omega⟩
                  · go_wp2
                    exact ⟨⟨k + 1, s2, by omega, by go_num, ⟨hTy.below hbz, A3, c3, hQy.below hbz, hPy.below hbz⟩, chain hby hbz⟩, by simp [intOf]; omega⟩
        · have HC := Lib.hid (fun W h => clone_tape p s W h)
          have HI := Lib.hid (fun pc W h hb => is_any pc s A2 c2 W h hb)
          have hpr := hT.lt
          have hqr := hQr.lt
          have hwr := hbel.size
          go_wp2_with (first
            | (go_at_call 63; refine (HC.out _ hT).mono ?_; rintro e w5 ⟨pc, rfl, hpc, hTc, hb5⟩; have hQ5 := hQr.below hb5; have hO5 := hO.below hb5; obtain ⟨z0, z1, z2, z3, z4, zf⟩ := five hQ5)
            | (go_at_call 58; refine (HI.out pc _ (hTc.alloc _) (hO5.alloc _).bs).mono ?_; rintro e w6 ⟨rfl, hb6⟩))
          have hcx := hTc.lt
          have hbw6 : Below w.heap.size w w6 := chain (chain hbel hb5) ((bl_alloc (Below.refl _ w5) _).trans (hb6.mono (by simp)))
          have hX6 := (Cells.new w5 77 (tcells s A2 c2)).below hb6
          have hC6 := (hTc.alloc _).below hb6
          have hO6 := (hO5.alloc _).below hb6
          have hQ6 := (hQ5.alloc _).below hb6
          have hT6 := ((hT.below hb5).alloc _).below hb6
          obtain ⟨qx, hqx⟩ : ∃ qx, w5.heap.size = qx := ⟨_, rfl⟩
          rw [hqx] at hcx hX6 ⊢
          clear hqx hb5 hb6 z0 z1 z2 z3 z4 zf hQ5 hO5 hTc HC hT hQr hO hbel
          obtain ⟨wo, rfl⟩ : ∃ wo : World, wo = wr := ⟨_, rfl⟩
          go_loopw [16, 98] (fun v16 v98 wz => ∃ (k : Nat) (s' : TS), k ≤ n1 ∧ v98 = .int .i64 k ∧ Both wz w.heap.size pc qx s' ∧ TapeAt wz p s ∧ Cells wz q 77 (tcells s A2 c2) ∧ Own wz w.heap.size (.slice A2 s.b.length c2) s.b ∧ Below w.heap.size w wz) (fun _ v98 _ => n1 - (intOf v98).toNat)
          case atStart => exact ⟨0, s, by omega, rfl, ⟨hC6, A2, c2, hX6, hO6⟩, hT6, hQ6, hO6, hbw6⟩
          case round =>
            obtain ⟨j, s', hj, rfl, ⟨hTc, A5, c5, hXr, hX5⟩, hT, hQr, hO, hbel⟩ := hrel
            by_cases hjn : j < n1
            · have i0 : (j : Int) < (n1 : Int) := by omega
              obtain ⟨b, o, a, rfl, ha, e0, ⟨A', c', e1, el, hlc⟩, e2, e3, hm0, hm1⟩ := hL1.at_ hjn
              have g0 := cell_below hbel e0
              have g1 := cell_below hbel e1
              have g2 := cell_below hbel e2
              have g3 := cell_below hbel e3
              have hl := el.below hbel
              have E0 := Lib.hid e0
              have E1 := Lib.hid e1
              have E2 := Lib.hid e2
              have E3 := Lib.hid e3
              clear e0 e1 e2 e3
              have hwr2 := hbel.size
              have hpcl := hTc.lt
              have HM := Lib.hid (fun W ho hl hB => model_any w.heap.size s' a A5 c5 A' c' W hTc.ok ho hl hB)
              have HA := Lib.hid (fun W h hl => act_any pc s' a A' c' W h hl hm1)
              generalize hr2 : s'.act a = r2 at HM HA
              obtain ⟨s2, er⟩ := r2
              clear hr2
              go_wp2_with (go_at_call 53; refine (HA.out _ hTc hl).mono ?_; rintro e w7 ⟨rfl, ht7⟩)
              have hX7 := hXr.grown ht7.only (by simp; omega)
              have hP7 := hX5.tape hTc ht7.only
              have hT7 := hT.other hTc ht7.only (by omega)
              have hQ7 := hQr.grown ht7.only (by simp; omega)
              have hO7 := hO.tape hTc ht7.only
              have hbw7 : Below w.heap.size w w7 := below_only hbel ht7.only (by omega) hpcl
              have hC7 := ht7.tape
              clear ht7 g0 g1 g2 g3 hX5 hXr hT hQr hO hTc
              obtain ⟨d0, d1, d2, d3, d4, df⟩ := five hX7
              have g0 := cell_below hbw7 E0.out
              have g1 := cell_below hbw7 E1.out
              have g2 := cell_below hbw7 E2.out
              have g3 := cell_below hbw7 E3.out
              have HM1 := Lib.hid (HM.out w7.drew hP7.drew (Bs.drew (el.below hbw7)) hbw7.size)
              go_wp2_with fail
              go_region_with ((go_at_call 59; (with_reducible refine HM1.out.mono ?_); rintro e w8 ⟨A3, c3, rfl, hown, hb8, hfr⟩; unfold refv; have hB8 := draw_way hb8; have hX8 := hX7.below hB8; obtain ⟨z0, z1, z2, z3, z4, zf⟩ := five hX8))
              all_goals go_wp2_with fail
              all_goals have hG := only_store (only_store (only_store (only_store (only_store (only_refl w8 (some qx)) 0 (.int .i64 (s2.cap : Int))) 1 (.slice A3 s2.b.length c3)) 2 (.int .i64 (s2.safe : Int))) 3 (.int .i64 s2.fuse)) 4 (.bool s2.lost)
              all_goals have hgx := only_trans (only_of hB8 _) hG
              all_goals exact ⟨⟨j + 1, s2, by omega, by go_num, ⟨hC7.far hX7 ref_ne (by omega) hgx, A3, c3, ((((hX8.store 0 _).store 1 _).store 2 _).store 3 _).store 4 _, hown.grown hG hX8 ref_ne⟩, hT7.far hX7 ref_ne (by omega) hgx, hQ7.grown hgx (by simp; omega), hO7.grown hgx hX7 ref_ne, below_only hbw7 hgx (by omega) hX7.lt⟩, by simp [intOf]; omega⟩
            · obtain ⟨z0, z1, z2, z3, z4, zf⟩ := five hXr
              have HI2 := Lib.hid (fun W h hb => is_any pc s' A5 c5 W h hb)
              go_wp2_with (first
                | (go_at_call 58; (with_reducible refine (HI2.out _ hTc hX5.bs).mono ?_); rintro e w6 ⟨rfl, hb6⟩; have hT9 := hT.below hb6; have hO9 := hO.below hb6; obtain ⟨x0, x1, x2, x3, x4, xf⟩ := five (hQr.below hb6))
                | (go_at_call 58; (with_reducible refine (HI.out p _ hT9 hO9.bs).mono ?_); rintro e w7 ⟨rfl, hb7⟩))
              go_ret
              exact ⟨rfl, chain (chain hbel hb6) hb7⟩
    · have hF' : fewB L1 = false := by simpa using hF1
      rw [hF] at HW
      rw [hF'] at HW1
      clear hF hF1 hF'
      go_enter Try.func23, Try.ntmps23
      go_wp2_with (first
        | (go_at_call 49; have hb0 := hb1; refine (awake17_any _).mono ?_; rintro e w2 ⟨rfl, hb2⟩)
        | (go_at_call 49; refine (awake17_any _).mono ?_; rintro e w1 ⟨rfl, hb1⟩)
        | (go_at_call 50; first | (with_reducible refine (HW.out _ (hL.below hb1)).mono ?_; rintro e w2 ⟨rfl, rfl⟩) | (with_reducible refine (HW1.out _ (hL1.below hb1)).mono ?_; rintro e w2 ⟨rfl, rfl⟩)))
      go_ret
      exact ⟨rfl, chain hb1 hb2⟩
  · have hF' : fewB L = false := by simpa using hF
    rw [hF'] at HW
    clear hF hF'
    go_enter Try.func23, Try.ntmps23
    go_wp2_with (first
      | (go_at_call 49; have hb0 := hb1; refine (awake17_any _).mono ?_; rintro e w2 ⟨rfl, hb2⟩)
      | (go_at_call 49; refine (awake17_any _).mono ?_; rintro e w1 ⟨rfl, hb1⟩)
      | (go_at_call 50; refine (HW.out _ (hL.below hb1)).mono ?_; rintro e w2 ⟨rfl, rfl⟩))
    go_ret
    exact ⟨rfl, chain hb1 hb2⟩
end Go.Proofs.Ytcgdkfhfchkdlaa
