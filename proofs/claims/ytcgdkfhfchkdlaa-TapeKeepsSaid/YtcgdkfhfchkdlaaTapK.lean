/- The law TapeKeeps of layer 17, walked: it answers true, whatever befell the tape, whatever stays. -/
import Derived.Test.YtcgdkfhfchkdlaaTapN
namespace Go.Proofs.Ytcgdkfhfchkdlaa
open Go.RowKit TapM
theorem TapeAt.bs {w w' : World} {p n : Nat} {s : TS} {A : Option Addr} {l : List UInt8} (h : TapeAt w p s) (hb : Bs w A n l) (hg : w.grownBy w' (some p)) : Bs w' A n l := by
  obtain ⟨_, _, hC, _⟩ := h.open_
  exact hb.only hg (hb.ne_tape hC)
theorem restart_facts {s : TS} (h : s.Ok) (keep : Int) (y : UInt8) : (s.restart keep y).lost = false ∧ (s.restart keep y).safe = (s.restart keep y).b.length ∧ s.safe ≤ (s.restart keep y).b.length ∧ (s.restart keep y).b.length ≤ s.b.length ∧ (s.restart keep y).b.take s.safe = s.b.take s.safe := by
  obtain ⟨h1, h2⟩ := TS.stay_le h keep
  have hl : (s.restart keep y).b.length = s.stay keep := TS.left_length h2 y
  exact ⟨rfl, hl.symm, by rw [hl]; exact h1, by rw [hl]; exact h2, TS.left_safe h1 y⟩
set_option maxRecDepth 100000 in
set_option maxHeartbeats 3200000 in
theorem tapeKeeps_law (A : Option Addr) (n c : Nat) (L : List TAct) (keep : Int) (y : UInt8) (w : World) (hL : Acts w A n L) (hn : n ≤ 9223372036854775807) (_ : -9223372036854775808 ≤ keep) (_ : keep ≤ 9223372036854775807) :
    Calls Try.prog 22 #[.slice A n c, .int .i64 keep, .int .u8 (y.toNat : Int)] w fun e w' => e = .returned (.bool true) ∧ Below w.heap.size w w' := by
  have HW := Lib.hid (fun w h => few_any A n c L w h hn)
  by_cases hF : fewB L = true
  · rw [hF] at HW
    clear hF
    go_enter Try.func22, Try.ntmps22
    go_wp2_with (first
      | (go_at_call 49; refine (awake17_any _).mono ?_; rintro e w1 ⟨rfl, hb1⟩)
      | (go_at_call 50; refine (HW.out _ (hL.below hb1)).mono ?_; rintro e w2 ⟨rfl, rfl⟩)
      | (go_at_call 51; refine (new_at 9000 (by omega) (by omega) _).mono ?_; rintro e w2 ⟨p, rfl, hp, ht, hb2⟩))
    have hwp : w.heap.size ≤ p := Nat.le_trans hb1.size hp
    have hbw2 : Below w.heap.size w w2 := chain hb1 hb2
    obtain ⟨s0, hs0, hs1⟩ : ∃ s0, TS.new (9000 : Int).toNat = s0 ∧ s0.safe = 0 := ⟨_, rfl, rfl⟩
    rw [hs0] at ht
    have HS0 := Lib.hid hs1
    clear hb1 hb2 hp hs0 hs1
    go_loopw [9, 10, 11, 12, 32] (fun v9 v10 v11 v12 v32 wr => ∃ (k : Nat) (s : TS) (As : Option Addr) (cs K : Nat), k ≤ n ∧ v32 = .int .i64 k ∧ v9 = .slice As K cs ∧ Hid (s.safe = K) ∧ Bs wr As K (s.b.take K) ∧ TapeAt wr p s ∧ Below w.heap.size w wr) (fun _ _ _ _ v32 _ => n - (intOf v32).toNat)
    case atStart => exact ⟨0, s0, none, 0, 0, by omega, rfl, rfl, HS0.out, ⟨by simp, .inl rfl⟩, ht, hbw2⟩
    case round =>
      obtain ⟨k, s, As, cs, K, hk, rfl, rfl, hsK, hbs, hT, hbel⟩ := hrel
      by_cases hkn : k < n
      · have i0 : (k : Int) < (n : Int) := by omega
        obtain ⟨b, o, a, rfl, _, g0, ⟨A', c', g1, hl, _⟩, g2, g3, hn0, hn1⟩ := (hL.below hbel).at_ hkn
        have HA := Lib.hid (fun W h hl => act_any p s a A' c' W h hl hn1)
        have hd := @TS.act_done s a
        have hnt := @TS.act_not s hT.ok a
        generalize hr : s.act a = r at HA hd hnt
        obtain ⟨s2, er⟩ := r
        clear hr
        by_cases he : er = 0
        · subst he
          have HR := Lib.hid (fun w h => read_on p s2 w h (hd rfl))
          clear hd hnt
          have HSf := Lib.hid (fun w h => safe_any p s2 w h)
          obtain ⟨N, hN⟩ : ∃ N, s2.b.length = N := ⟨_, rfl⟩
          obtain ⟨K2, hK2⟩ : ∃ K2, s2.safe = K2 := ⟨_, rfl⟩
          rw [hN] at HR
          rw [hK2] at HSf
          have HN := Lib.hid hN
          have HK := Lib.hid hK2
          clear hN hK2
          go_wp2_with (first
            | (go_at_call 53; refine (HA.out _ hT hl).mono ?_; rintro e w5 ⟨rfl, ht5⟩; have hsb := ht5.tape.ok.sb; rw [HN.out, HK.out] at hsb)
            | (go_at_call 60; refine (HR.out _ ht5.tape).mono ?_; rintro e w6 ⟨A6, c6, rfl, hO6, hb6⟩; have ht6 := ht5.tape.below hb6; have hc6 := hO6.room; have j1 : (K2 : Int) ≤ (c6 : Int) := by omega)
            | (go_at_call 61; refine (HSf.out _ ht6).mono ?_; rintro e w7 ⟨rfl, rfl⟩))
          exact ⟨⟨k + 1, s2, A6, c6, K2, by omega, by go_num, rfl, HK.out, (hO6.take hsb).bs, ht6, chain (below_only hbel ht5.only hwp hT.lt) hb6⟩, by simp [intOf]; omega⟩
        · have h2 := hnt he
          have h1 : ((er : Int) != 0) = true := by rw [bne_iff_ne]; omega
          have HT := Lib.hid h2
          clear hd hnt h2
          go_wp2_with (go_at_call 53; refine (HA.out _ hT hl).mono ?_; rintro e w5 ⟨rfl, ht5⟩)
          exact ⟨⟨k + 1, s2, As, cs, K, by omega, by go_num, rfl, HT.out.1.trans hsK.out, by have h := hT.bs hbs ht5.only; rw [← hsK.out] at h ⊢; rw [HT.out.2]; exact h, ht5.tape, below_only hbel ht5.only hwp hT.lt⟩, by simp [intOf]; omega⟩
      · have hrf := restart_facts hT.ok keep y
        have HRs := Lib.hid (fun w h => restart_any p s keep y w h)
        have HLn := Lib.hid (fun w h => len_any p s w h)
        have HLo := Lib.hid (fun w h => lost_any p s w h)
        have HSf := Lib.hid (fun w h => safe_any p s w h)
        generalize s.restart keep y = s3 at HRs hrf
        obtain ⟨f1, f2, f3, f4, f5⟩ := hrf
        have HR3 := Lib.hid (fun w h => read_on p s3 w h f1)
        have HLn3 := Lib.hid (fun w h => len_q p s3 w h)
        have HLo3 := Lib.hid (fun w h => lost_q p s3 w h)
        have HSf3 := Lib.hid (fun w h => safe_q p s3 w h)
        rw [f1] at HLo3
        rw [f2] at HSf3
        rw [hsK.out] at HSf f3 f5
        have F5 := Lib.hid f5
        obtain ⟨N, hN⟩ : ∃ N, s3.b.length = N := ⟨_, rfl⟩
        obtain ⟨M, hM⟩ : ∃ M, s.b.length = M := ⟨_, rfl⟩
        rw [hN] at HR3 HLn3 HSf3 f3 f4
        rw [hM] at HLn f4
        have n1 : ((K : Int) != (K : Int)) = false := by simp
        have n2 : ((N : Int) == (N : Int)) = true := by simp
        have d1 : decide ((K : Int) ≤ (N : Int)) = true := by simp; omega
        have d2 : decide ((N : Int) ≤ (M : Int)) = true := by simp; omega
        have j0 : (0 : Int) ≤ (K : Int) := by omega
        clear f1 f2 f5 hN hM
        cases hlo : s.lost with
        | true =>
          rw [hlo] at HLo
          clear hlo
          go_wp2_with (first
            | (go_at_call 62; refine (HLn.out _ hT).mono ?_; rintro e w5 ⟨rfl, rfl⟩)
            | (go_at_call 54; refine (HLo.out _ hT).mono ?_; rintro e w5 ⟨rfl, rfl⟩)
            | (go_at_call 61; refine (HSf.out _ hT).mono ?_; rintro e w5 ⟨rfl, rfl⟩)
            | (go_at_call 55; refine (HRs.out _ hT).mono ?_; rintro e w5 ⟨rfl, ht5⟩)
            | (go_at_call 60; refine (HR3.out _ ht5.tape).mono ?_; rintro e w6 ⟨A6, c6, rfl, hO6, hb6⟩; have ht6 := ht5.tape.below hb6; have hbs6 := (hT.bs hbs ht5.only).below hb6; have hc6 := hO6.room; have j1 : (K : Int) ≤ (c6 : Int) := (by omega); have s1 := run_str c6 (hO6.take f3).bs; have s2 := run_str cs hbs6; rw [F5.out] at s1))
          generalize hS : (⟨(s.b.take K).toArray⟩ : ByteArray) = S at s1 s2
          have b1 : (S.toList == S.toList) = true := by simp
          have hbw : Below w.heap.size w w6 := chain (below_only hbel ht5.only hwp hT.lt) hb6
          clear hS hbs6 hO6
          go_quiet ((first | (go_at_call 61; exact q_of (HSf3.out _ (ht6.drewN _))) | (go_at_call 62; exact q_of (HLn3.out _ (ht6.drewN _))) | (go_at_call 54; exact q_of (HLo3.out _ (ht6.drewN _)))))
          go_wp2
          go_ret
          exact ⟨rfl, below_drewN hbw _⟩
        | false =>
          rw [hlo] at HLo
          clear hlo
          go_wp2_with (first
            | (go_at_call 62; refine (HLn.out _ hT).mono ?_; rintro e w5 ⟨rfl, rfl⟩)
            | (go_at_call 54; refine (HLo.out _ hT).mono ?_; rintro e w5 ⟨rfl, rfl⟩)
            | (go_at_call 61; refine (HSf.out _ hT).mono ?_; rintro e w5 ⟨rfl, rfl⟩)
            | (go_at_call 55; refine (HRs.out _ hT).mono ?_; rintro e w5 ⟨rfl, ht5⟩)
            | (go_at_call 60; refine (HR3.out _ ht5.tape).mono ?_; rintro e w6 ⟨A6, c6, rfl, hO6, hb6⟩; have ht6 := ht5.tape.below hb6; have hbs6 := (hT.bs hbs ht5.only).below hb6; have hc6 := hO6.room; have j1 : (K : Int) ≤ (c6 : Int) := (by omega); have s1 := run_str c6 (hO6.take f3).bs; have s2 := run_str cs hbs6; rw [F5.out] at s1))
          generalize hS : (⟨(s.b.take K).toArray⟩ : ByteArray) = S at s1 s2
          have b1 : (S.toList == S.toList) = true := by simp
          have hbw : Below w.heap.size w w6 := chain (below_only hbel ht5.only hwp hT.lt) hb6
          clear hS hbs6 hO6
          go_quiet ((first | (go_at_call 61; exact q_of (HSf3.out _ (ht6.drewN _))) | (go_at_call 62; exact q_of (HLn3.out _ (ht6.drewN _))) | (go_at_call 54; exact q_of (HLo3.out _ (ht6.drewN _)))))
          go_wp2
          go_ret
          exact ⟨rfl, below_drewN hbw _⟩
  · have hF' : fewB L = false := by simpa using hF
    rw [hF'] at HW
    clear hF hF'
    go_enter Try.func22, Try.ntmps22
    go_wp2_with (first
      | (go_at_call 49; have hb0 := hb1; refine (awake17_any _).mono ?_; rintro e w2 ⟨rfl, hb2⟩)
      | (go_at_call 49; refine (awake17_any _).mono ?_; rintro e w1 ⟨rfl, hb1⟩)
      | (go_at_call 50; refine (HW.out _ (hL.below hb1)).mono ?_; rintro e w2 ⟨rfl, rfl⟩))
    go_ret
    exact ⟨rfl, chain hb1 hb2⟩
end Go.Proofs.Ytcgdkfhfchkdlaa
