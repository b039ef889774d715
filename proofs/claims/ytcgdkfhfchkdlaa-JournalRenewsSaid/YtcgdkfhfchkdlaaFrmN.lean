/- The laws FrameTurned, FrameCut and FrameNests of layer 4, walked: each answers true, whatever bytes. -/
import Derived.Test.YtcgdkfhfchkdlaaFrmL
namespace Go.Proofs.Ytcgdkfhfchkdlaa
open Go.RowKit FrameM
theorem Own.cap {w : World} {base n c : Nat} {A : Option Addr} {l : List UInt8} (h : Own w base (.slice A n c) l) : n ≤ c := by
  obtain ⟨A', c', hv, hc⟩ := h.slice
  injection hv with _ e e2
  subst e e2
  exact hc
theorem one_turned' {l F : List UInt8} (hF : frame l = F) {i : Nat} (hi : i < F.length) (by_ : UInt8) (hb : by_ ≠ 0) :
    ∃ m, one (F.set i (F[i] ^^^ by_)) = ([], m) ∧ ((m : Int) != 0) = true := by
  subst hF
  obtain ⟨h1, h2⟩ := one_turned hi by_ hb
  refine ⟨_, Prod.ext h2 rfl, ?_⟩
  rw [bne_iff_ne]
  show ((one _).2 : Int) ≠ 0
  omega
/-- frame.One, with the plain answer named. -/
theorem one_at {x : List UInt8} {m : Nat} (A : Option Addr) (n c : Nat) (l : List UInt8) (w : World) (h : one l = (x, m)) (hl : Bs w A n l) (hm : n ≤ 1000000) (hc : n ≤ c) :
    Calls Try.prog 47 #[.slice A n c] w fun e w' => ∃ A2 c2, e = .returned (.tuple #[.slice A2 x.length c2, .int .i64 m]) ∧ Own w' w.heap.size (.slice A2 x.length c2) x ∧ Below w.heap.size w w' := by
  have := one_any A n c l w hl hm hc
  rw [h] at this
  exact this
/-- frame.One where it answers no bytes: the slice has no length. -/
theorem one_none {m : Nat} (A : Option Addr) (n c : Nat) (l : List UInt8) (w : World) (h : one l = ([], m)) (hl : Bs w A n l) (hm : n ≤ 1000000) (hc : n ≤ c) :
    Calls Try.prog 47 #[.slice A n c] w fun e w' => ∃ A2 c2, e = .returned (.tuple #[.slice A2 0 c2, .int .i64 m]) ∧ Below w.heap.size w w' :=
  (one_at A n c l w h hl hm hc).mono fun _ _ ⟨A2, c2, he, _, hb⟩ => ⟨A2, c2, he, hb⟩
set_option maxHeartbeats 800000 in
theorem frameTurned_law (A : Option Addr) (n c : Nat) (l : List UInt8) (at_ : Nat) (by_ : UInt8) (w : World) (hl : Bs w A n l) (_ : n ≤ c) (hat : at_ < 4294967296) :
    Calls Try.prog 17 #[.slice A n c, .int .u32 at_, .int .u8 (by_.toNat : Int)] w fun e w' => e = .returned (.bool true) ∧ Below w.heap.size w w' := by
  by_cases hn : n ≤ 60000
  · by_cases hby : by_ = 0
    · subst hby
      go_enter Try.func17, Try.ntmps17
      go_wp2_with (first
        | (go_at_call 40; have hb0 := hb1; refine (awake04_any _).mono ?_; rintro e w2 ⟨rfl, hb2⟩)
        | (go_at_call 40; refine (awake04_any _).mono ?_; rintro e w1 ⟨rfl, hb1⟩))
      go_ret
      exact ⟨rfl, chain hb1 hb2⟩
    · have h1 : ((by_.toNat : Int) == 0) = false := by
        have : by_.toNat ≠ 0 := fun h => hby (UInt8.toNat_inj.1 (by simpa using h))
        simp; omega
      obtain ⟨F, hF⟩ : ∃ F, frame l = F := ⟨_, rfl⟩
      have hFl : F.length = n + 8 := by rw [← hF, frame_length, hl.1]
      obtain ⟨j, hj⟩ : ∃ j : Nat, (at_ : Int) % ((n : Int) + 8) = j := ⟨at_ % (n + 8), by rw [Int.natCast_emod]; rfl⟩
      have hjl : j < F.length := by
        have := Int.emod_lt_of_pos (at_ : Int) (b := (n : Int) + 8) (by omega)
        omega
      have hj8 : j < n + 8 := by omega
      obtain ⟨m, ht, hm⟩ := one_turned' hF hjl by_ hby
      have hx := xor_u8 F[j] by_
      have h8 : (((n : Int) + 8) == 0) = false := beq_eq_false_iff_ne.2 (by omega)
      have HF := Lib.hid (fun w hl => frame_any A n c l w hl hn)
      rw [hF] at HF
      have HT := Lib.hid ht
      have HFl := Lib.hid hFl
      clear hF hFl ht
      go_enter Try.func17, Try.ntmps17
      go_wp2_with (first
        | (go_at_call 40; refine (awake04_any _).mono ?_; rintro e w1 ⟨rfl, hb1⟩)
        | (go_at_call 41; refine (HF.out _ (hl.below hb1)).mono ?_; rintro e w2 ⟨A2, c2, rfl, hown2, hb2⟩; obtain ⟨g, rfl, hg1, hg2⟩ := hown2.addr (by omega); have hcell := hown2.cell hjl; have hfz := hown2.free j)
        | (go_at_call 47; have hs := hown2.store j (F[j] ^^^ by_); refine (one_none _ _ _ _ _ HT.out hs.bs (by omega) hown2.cap).mono ?_; rintro e w3 ⟨A3, c3, rfl, hb3⟩))
      go_ret
      have hbA : Below w.heap.size w (w2.setCell ⟨g, j, none⟩ (.int .u8 ((F[j] ^^^ by_).toNat : Int))) := (chain hb1 hb2).setCell (p := ⟨g, j, none⟩) (by have := hb1.size; simp; omega) _
      exact ⟨rfl, chain hbA hb3⟩
  · go_enter Try.func17, Try.ntmps17
    go_wp2_with (first
      | (go_at_call 40; have hb0 := hb1; refine (awake04_any _).mono ?_; rintro e w2 ⟨rfl, hb2⟩)
      | (go_at_call 40; refine (awake04_any _).mono ?_; rintro e w1 ⟨rfl, hb1⟩))
    go_ret
    exact ⟨rfl, chain hb1 hb2⟩
set_option maxHeartbeats 1600000 in
set_option maxRecDepth 100000 in
theorem frameNests_law (A : Option Addr) (n c : Nat) (l : List UInt8) (w : World) (hl : Bs w A n l) (_ : n ≤ c) :
    Calls Try.prog 19 #[.slice A n c] w fun e w' => e = .returned (.bool true) ∧ Below w.heap.size w w' := by
  by_cases hn : n ≤ 59992
  · obtain ⟨F, hF⟩ : ∃ F, frame l = F := ⟨_, rfl⟩
    have hFl : F.length = n + 8 := by rw [← hF, frame_length, hl.1]
    obtain ⟨G, hG⟩ : ∃ G, frame F = G := ⟨_, rfl⟩
    have hGl : G.length = n + 16 := by rw [← hG, frame_length, hFl]
    have ho1 : one G = (F, 0) := by rw [← hG]; exact one_frame (by omega)
    have ho2 : one F = (l, 0) := by rw [← hF]; exact one_frame (by rw [hl.1]; omega)
    have HF := Lib.hid (fun w hl => frame_any A n c l w hl (by omega))
    rw [hF] at HF
    have HG := Lib.hid (fun A c w hl => frame_any A (n + 8) c F w hl (by omega))
    rw [hG] at HG
    have H1 := Lib.hid (fun A c w hl hc => one_at A (n + 8 + 8) c G w ho1 hl (by omega) hc)
    have H2 := Lib.hid (fun A c w hl hc => one_at A (n + 8) c F w ho2 hl (by omega) hc)
    rw [hFl] at H1
    rw [hl.1] at H2
    have HFl := Lib.hid hFl
    clear hF hFl hG hGl ho1 ho2
    go_enter Try.func19, Try.ntmps19
    go_wp2_with (first
      | (go_at_call 40; refine (awake04_any _).mono ?_; rintro e w1 ⟨rfl, hb1⟩)
      | (go_at_call 41; refine (HG.out _ _ _ hown2.bs).mono ?_; rintro e w3 ⟨A3, c3, rfl, hown3, hb3⟩)
      | (go_at_call 41; refine (HF.out _ (hl.below hb1)).mono ?_; rintro e w2 ⟨A2, c2, rfl, hown2, hb2⟩)
      | (go_at_call 47; refine (H2.out _ _ _ hown4.bs hown4.cap).mono ?_; rintro e w5 ⟨A5, c5, rfl, hown5, hb5⟩; have s1 := conv A4 (n + 8) c4 _ _ (hown4.bs.below hb5); have s2 := conv A2 (n + 8) c2 _ _ (((hown2.bs.below hb3).below hb4).below hb5); have s3 := conv A5 n c5 _ _ hown5.bs; have s4 := conv A n c _ _ (((((hl.below hb1).below hb2).below hb3).below hb4).below hb5); generalize (⟨F.toArray⟩ : ByteArray) = S1 at s1 s2; generalize (⟨l.toArray⟩ : ByteArray) = S2 at s3 s4; have b1 : (S1.toList == S1.toList) = true := beq_self_eq_true _; have b2 : (S2.toList == S2.toList) = true := beq_self_eq_true _)
      | (go_at_call 47; refine (H1.out _ _ _ hown3.bs hown3.cap).mono ?_; rintro e w4 ⟨A4, c4, rfl, hown4, hb4⟩))
    go_ret
    exact ⟨by simp, chain (chain (chain (chain hb1 hb2) hb3) hb4) hb5⟩
  · go_enter Try.func19, Try.ntmps19
    go_wp2_with (first
      | (go_at_call 40; have hb0 := hb1; refine (awake04_any _).mono ?_; rintro e w2 ⟨rfl, hb2⟩)
      | (go_at_call 40; refine (awake04_any _).mono ?_; rintro e w1 ⟨rfl, hb1⟩))
    go_ret
    exact ⟨rfl, chain hb1 hb2⟩
set_option maxHeartbeats 1600000 in
set_option maxRecDepth 100000 in
theorem frameCut_law (A : Option Addr) (n c : Nat) (l : List UInt8) (at_ : Nat) (B : Option Addr) (m d : Nat) (r : List UInt8) (w : World) (hl : Bs w A n l) (_ : n ≤ c) (hat : at_ < 4294967296) (hr : Bs w B m r) (_ : m ≤ d) :
    Calls Try.prog 18 #[.slice A n c, .int .u32 at_, .slice B m d] w fun e w' => e = .returned (.bool true) ∧ Below w.heap.size w w' := by
  by_cases hn : n ≤ 60000
  · by_cases hm : m ≤ 1000
    · obtain ⟨F, hF⟩ : ∃ F, frame l = F := ⟨_, rfl⟩
      have hFl : F.length = n + 8 := by rw [← hF, frame_length, hl.1]
      obtain ⟨j, hj⟩ : ∃ j : Nat, (at_ : Int) % ((n : Int) + 8) = j := ⟨at_ % (n + 8), by rw [Int.natCast_emod]; rfl⟩
      have hjl : j < n + 8 := by
        have := Int.emod_lt_of_pos (at_ : Int) (b := (n : Int) + 8) (by omega)
        omega
      have h8 : (((n : Int) + 8) == 0) = false := beq_eq_false_iff_ne.2 (by omega)
      have hoc : one (F.take j) = ([], 2) := by rw [← hF]; exact one_cut l (by rw [hl.1]; omega) (by rw [hF]; omega)
      have HF := Lib.hid (fun w hl => frame_any A n c l w hl hn)
      rw [hF] at HF
      have HC := Lib.hid hoc
      have HFl := Lib.hid hFl
      clear hoc
      obtain ⟨L, hL⟩ : ∃ L, F ++ r = L := ⟨_, rfl⟩
      have hLl : L.length = n + 8 + m := by rw [← hL, List.length_append, hFl, hr.1]
      have HL := Lib.hid hL
      have HLl := Lib.hid hLl
      by_cases hm0 : m = 0
      · subst hm0
        have hr0 : r = [] := List.eq_nil_of_length_eq_zero hr.1
        have ho : one L = (l, 0) := by rw [← hL, hr0, List.append_nil, ← hF]; exact one_frame (by rw [hl.1]; omega)
        have HO := Lib.hid ho
        clear hL hLl hF hFl ho hr0
        go_enter Try.func18, Try.ntmps18
        go_wp2_with (first
          | (go_at_call 40; refine (awake04_any _).mono ?_; rintro e w1 ⟨rfl, hb1⟩)
          | (go_at_call 41; refine (HF.out _ (hl.below hb1)).mono ?_; rintro e w2 ⟨A2, c2, rfl, hown2, hb2⟩; obtain ⟨g, rfl, hg1, hg2⟩ := hown2.addr (by omega); have hcap := hown2.cap; have k1 : (j : Int) ≤ (c2 : Int) := by omega))
        have ht : Bs w2 (some ⟨g, 0, none⟩) j (F.take j) := by
          have := hown2.bs.cut (k := 0) (by omega) j (by omega) (fun _ => ⟨g, 0, rfl⟩) (some ⟨g, 0, none⟩) (fun b' o' e _ => by rw [Nat.add_zero]; exact e)
          rw [List.drop_zero] at this
          exact this
        refine (one_none _ j c2 _ _ HC.out ht (by omega) (by omega)).mono ?_
        rintro e w3 ⟨A3, c3, rfl, hb3⟩
        go_wp2_with (first
          | (at_builtin; apply wpList_append_sl (base := w1.heap.size) (hown2.below hb3) ((((hr.below hb1).below hb2).below hb3)) L (.tmp 50) (.tmp 51) rfl rfl rfl rfl HL.out (n + 8) HLl.out; (case hsz => omega); (case hbase => (have := hb2.size; have := hb3.size; omega)); intro A4 c4 w4 hown4 hg3 hg4; have hb4 := below_append (chain (hb2) hb3) (hown2.below hb3) hg3 (by have := hb2.size; have := hb3.size; omega))
          | (go_at_call 47; refine (one_at _ _ _ _ _ HO.out hown4.bs (by omega) hown4.cap).mono ?_; rw [hl.1]; rintro e w5 ⟨A5, c5, rfl, hown5, hb5⟩; have s1 := conv A5 n c5 _ _ hown5.bs; have hb14 := chain (chain hb1 hb4) hb5;  have s2 := conv A n c _ _ (hl.below hb14)))
        go_ret
        exact ⟨by simp, hb14⟩
      · have ho : one L = ([], 2) := by rw [← hL, ← hF]; exact one_more l (by rw [hl.1]; omega) (fun e => hm0 (by rw [← hr.1, e]; rfl))
        have hme : ((m : Int) == 0) = false := beq_eq_false_iff_ne.2 (by omega)
        have HO := Lib.hid ho
        clear hL hLl hF hFl ho
        go_enter Try.func18, Try.ntmps18
        go_wp2_with (first
          | (go_at_call 40; refine (awake04_any _).mono ?_; rintro e w1 ⟨rfl, hb1⟩)
          | (go_at_call 41; refine (HF.out _ (hl.below hb1)).mono ?_; rintro e w2 ⟨A2, c2, rfl, hown2, hb2⟩; obtain ⟨g, rfl, hg1, hg2⟩ := hown2.addr (by omega); have hcap := hown2.cap; have k1 : (j : Int) ≤ (c2 : Int) := by omega))
        have ht : Bs w2 (some ⟨g, 0, none⟩) j (F.take j) := by
          have := hown2.bs.cut (k := 0) (by omega) j (by omega) (fun _ => ⟨g, 0, rfl⟩) (some ⟨g, 0, none⟩) (fun b' o' e _ => by rw [Nat.add_zero]; exact e)
          rw [List.drop_zero] at this
          exact this
        refine (one_none _ j c2 _ _ HC.out ht (by omega) (by omega)).mono ?_
        rintro e w3 ⟨A3, c3, rfl, hb3⟩
        go_wp2_with (first
          | (at_builtin; apply wpList_append_sl (base := w1.heap.size) (hown2.below hb3) ((((hr.below hb1).below hb2).below hb3)) L (.tmp 50) (.tmp 51) rfl rfl rfl rfl HL.out (n + 8 + m) HLl.out; (case hsz => omega); (case hbase => (have := hb2.size; have := hb3.size; omega)); intro A4 c4 w4 hown4 hg3 hg4; have hb4 := below_append (chain (hb2) hb3) (hown2.below hb3) hg3 (by have := hb2.size; have := hb3.size; omega))
          | (go_at_call 47; refine (one_none _ _ _ _ _ HO.out hown4.bs (by omega) hown4.cap).mono ?_; rintro e w5 ⟨A5, c5, rfl, hb5⟩; have hb14 := chain (chain hb1 hb4) hb5))
        go_ret
        exact ⟨rfl, hb14⟩
    · go_enter Try.func18, Try.ntmps18
      go_wp2_with (first
        | (go_at_call 40; have hb0 := hb1; refine (awake04_any _).mono ?_; rintro e w2 ⟨rfl, hb2⟩)
        | (go_at_call 40; refine (awake04_any _).mono ?_; rintro e w1 ⟨rfl, hb1⟩))
      go_ret
      exact ⟨rfl, chain hb1 hb2⟩
  · go_enter Try.func18, Try.ntmps18
    go_wp2_with (first
      | (go_at_call 40; have hb0 := hb1; refine (awake04_any _).mono ?_; rintro e w2 ⟨rfl, hb2⟩)
      | (go_at_call 40; refine (awake04_any _).mono ?_; rintro e w1 ⟨rfl, hb1⟩))
    go_ret
    exact ⟨rfl, chain hb1 hb2⟩
end Go.Proofs.Ytcgdkfhfchkdlaa
