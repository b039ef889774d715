/- The law JournalRenews of layer 18, walked: it answers true, wherever the power goes. -/
import Derived.Test.YtcgdkfhfchkdlaaJouC
namespace Go.Proofs.Ytcgdkfhfchkdlaa
open Go.RowKit TapM FrameM JouM
theorem renew_burn {cap n : Nat} {xs : List (List UInt8)} {l : List UInt8} (hl : l.length ≤ 60000) (hc : l.length + 8 ≤ cap) : JouM.renew (jf cap xs 0) n l = (({ jf cap xs 0 with lost := true }, n), 9) := by
  have h1 : (jf cap xs 0).replace (frame l) = ({ jf cap xs 0 with lost := true }, 9) := by
    unfold TS.replace
    rw [if_neg (by simp [jf]), if_neg (show ¬ (jf cap xs 0).cap < (frame l).length by rw [frame_length]; show ¬ cap < _; omega), if_pos (show (jf cap xs 0).fuse = 0 from rfl)]
  unfold JouM.renew
  rw [if_neg (by omega), h1, if_neg (by simp)]
theorem renew_go {cap n : Nat} {xs : List (List UInt8)} {l : List UInt8} {f : Int} (hl : l.length ≤ 60000) (hc : l.length + 8 ≤ cap) (hf : f ≠ 0) : JouM.renew (jf cap xs f) n l = ((jf cap [l] (dec f), 0), 0) := by
  have h1 : (jf cap xs f).replace (frame l) = (jf cap [l] (dec f), 0) := by
    unfold TS.replace
    rw [if_neg (by simp [jf]), if_neg (show ¬ (jf cap xs f).cap < (frame l).length by rw [frame_length]; show ¬ cap < _; omega), if_neg (show ¬ (jf cap xs f).fuse = 0 from hf)]
    unfold jf
    rw [framed_one']
  unfold JouM.renew
  rw [if_neg (by omega), h1, if_pos rfl]
theorem keeps_all {base : List UInt8} {L : List (List UInt8)} (hb : base.length ≤ 300) (hx : ∀ x ∈ L, x.length ≤ 300) (hk : L.length ≤ 30) (keep : Int) (z : UInt8) :
    ∃ s2, opened (({ jf 1048576 (base :: L) 0 with lost := true } : TS).restart keep z) [] = (s2, base :: L, 0) := by
  have h3 : ∀ x ∈ base :: L, x.length ≤ 300 := fun x h => by
    rcases List.mem_cons.1 h with rfl | h
    · exact hb
    · exact hx x h
  have hs := framed_small _ h3
  have hln : (base :: L).length ≤ 31 := by simp; omega
  exact opened_jf (cap := 1048576) (f := 0) (keep := keep) (y := z) (base := []) (by simp) (fun x hx => Nat.le_trans (h3 x hx) (by omega)) (List.cons_ne_nil _ _) (by omega)
theorem keeps_next {next : List UInt8} (hb : next.length ≤ 300) (keep : Int) (z : UInt8) : ∃ s2, opened ((jf 1048576 [next] (dec 1)).restart keep z) [] = (s2, [next], 0) :=
  opened_jf (cap := 1048576) (f := dec 1) (keep := keep) (y := z) (base := []) (by simp) (fun x hx => by simp at hx; rw [hx]; omega) (List.cons_ne_nil _ _) (by rw [framed_one]; omega)
theorem mod2 (Y : Nat) : (Y : Int) % 2 = 0 ∨ (Y : Int) % 2 = 1 := by omega
set_option maxRecDepth 100000 in
set_option maxHeartbeats 3200000 in
theorem journalRenews_law (B : Option Addr) (m d : Nat) (base : List UInt8) (B1 : Option Addr) (m1 d1 : Nat) (next : List UInt8) (A : Option Addr) (n c : Nat) (L : List (List UInt8)) (y : UInt8) (keep : Int) (z : UInt8) (w : World) (hb : Bs w B m base) (hb1 : Bs w B1 m1 next) (hL : Rws w A n L) (hcap : n ≤ c) (_ : -9223372036854775808 ≤ keep) (_ : keep ≤ 9223372036854775807) :
    Calls Try.prog 27 #[.slice B m d, .slice B1 m1 d1, .slice A n c, .int .u8 (y.toNat : Int), .int .i64 keep, .int .u8 (z.toNat : Int)] w fun e w' => e = .returned (.bool true) ∧ Below w.heap.size w w' := by
  by_cases hn : n ≤ 30
  · by_cases hm : m ≤ 300
    · by_cases hm1 : m1 ≤ 300
      · have hy := y.toNat_lt
        obtain ⟨Y, hY⟩ : ∃ Y, y.toNat = Y := ⟨_, rfl⟩
        rw [hY] at hy ⊢
        clear hY
        have hbl := hb.1
        have hbl1 := hb1.1
        have hLl := hL.1
        have HO := Lib.hid (fun W h => jopen_any 1048576 (by omega) (by omega) B m d base W h (by omega) (by omega))
        have HBL := Lib.hid hbl
        have HBL1 := Lib.hid hbl1
        have HLL := Lib.hid hLl
        clear hbl hbl1 hLl
        go_enter Try.func27, Try.ntmps27
        go_wp2_with (first
          | (go_at_call 66; refine (awake18_any _).mono ?_; rintro e w1 ⟨rfl, hw1⟩)
          | (go_at_call 69; refine (HO.out _ (hb.below hw1)).mono ?_; rintro e w2 ⟨p, q, rfl, hp, hpq, hT, hj, hw2⟩))
        have hwp : w.heap.size ≤ p := Nat.le_trans hw1.size hp
        have hwq : w.heap.size ≤ q := by omega
        have hqp : q ≠ p := by omega
        have hbw2 : Below w.heap.size w w2 := chain hw1 hw2
        clear hw1 hw2 hp HO
        go_loopw [16, 50] (fun v16 v50 wr => ∃ k : Nat, k ≤ n ∧ v50 = .int .i64 k ∧ Hid (∀ x ∈ L.take k, x.length ≤ 300) ∧ TapeAt wr p (jf 1048576 (base :: L.take k) (-1)) ∧ JAt wr q p k ∧ Below w.heap.size w wr) (fun _ v50 _ => n - (intOf v50).toNat)
        case atStart => exact ⟨0, by omega, rfl, (fun x hx => absurd hx (by simp)), hT, hj, hbw2⟩
        case round =>
          obtain ⟨k, hk, rfl, hx3, hT, hj, hbel⟩ := hrel
          by_cases hkn : k < n
          · have i0 : (k : Int) < (n : Int) := by omega
            obtain ⟨b, o, A', c', x, rfl, hxk, h1, h2, h3⟩ := (hL.below hbel).at_ hkn
            have HXK := Lib.hid hxk
            clear hxk
            by_cases hx : x.length ≤ 300
            · have hsm := framed_small _ (small_cons (by rw [HBL.out]; exact hm) hx3.out)
              have hlen : (base :: L.take k).length ≤ 31 := by simp; omega
              have hx4 : Hid (∀ x' ∈ L.take (k + 1), x'.length ≤ 300) := by
                intro x' hx'
                rw [List.take_add_one, HXK.out] at hx'
                rcases List.mem_append.1 hx' with h | h
                · exact hx3.out x' h
                · simp at h; rw [h]; exact hx
              have HWr := Lib.hid (fun W hT hj hl => write_any p q (jf 1048576 (base :: L.take k) (-1)) k A' x.length c' x W hT hj hqp hl (by omega))
              rw [write_go (by omega) (by omega) (.inl rfl)] at HWr
              have e1 : base :: L.take k ++ [x] = base :: L.take (k + 1) := by rw [List.take_add_one, HXK.out]; rfl
              have e2 : dec (dec (-1)) = -1 := rfl
              rw [e1, e2] at HWr
              clear e1 e2 hsm hlen
              generalize x.length = q1 at *
              go_wp2_with (go_at_call 70; refine (HWr.out _ hT hj h2).mono ?_; rintro e w5 ⟨rfl, hW⟩)
              exact ⟨⟨k + 1, by omega, by go_num, hx4.out, hW.tape, hW.jou, below_two hbel hW.two hwp hwq hbel.size⟩, by simp [intOf]; omega⟩
            · generalize x.length = q1 at *
              go_wp2
              go_ret
              exact ⟨rfl, hbel⟩
          · obtain rfl : k = n := by omega
            have htk : L.take k = L := List.take_of_length_le (by rw [HLL.out]; omega)
            rw [htk] at hx3 hT
            have HFu := Lib.hid (fun f W h hf => fuse_any p (jf 1048576 (base :: L) (-1)) f W h hf)
            clear htk
            rcases mod2 Y with hY2 | hY2
            · have HF0 := Lib.hid (fun W h => HFu.out 0 W h (by omega))
              rw [arm_jf (by omega)] at HF0
              have HRn := Lib.hid (fun W hT hj hl => renew_any p q (jf 1048576 (base :: L) 0) k B1 m1 d1 next W hT hj hqp hl)
              rw [renew_burn (by rw [HBL1.out]; omega) (by rw [HBL1.out]; omega)] at HRn
              obtain ⟨s9, hop⟩ := keeps_all (by rw [HBL.out]; exact hm) hx3.out (by rw [HLL.out]; exact hn) keep z
              have hok : ({ jf 1048576 (base :: L) 0 with lost := true } : TS).Ok := by
                have h3 := small_cons (k := L.length) (by rw [HBL.out]; exact hm) (by rw [List.take_length]; exact hx3.out)
                rw [List.take_length] at h3
                have hs := framed_small _ h3
                have hln : (base :: L).length ≤ 31 := by simp; rw [HLL.out]; omega
                exact ⟨Nat.le_refl _, by show (framed _).length ≤ 1048576; omega, by show 1048576 ≤ 1048576; omega, by simp [jf], by simp [jf]⟩
              have hle : ({ jf 1048576 (base :: L) 0 with lost := true } : TS).b.length ≤ 1000000 := by
                have h3 := small_cons (k := L.length) (by rw [HBL.out]; exact hm) (by rw [List.take_length]; exact hx3.out)
                rw [List.take_length] at h3
                have hs := framed_small _ h3
                have hln : (base :: L).length ≤ 31 := by simp; rw [HLL.out]; omega
                show (framed _).length ≤ _
                omega
              have HRs := Lib.hid (fun W h => restart_any p ({ jf 1048576 (base :: L) 0 with lost := true } : TS) keep z W h)
              have HOp := Lib.hid (fun W h hb => open_any p (({ jf 1048576 (base :: L) 0 with lost := true } : TS).restart keep z) none 0 0 [] W h hb (Nat.le_trans (restart_len hok keep z) hle))
              rw [hop] at HOp
              generalize (({ jf 1048576 (base :: L) 0 with lost := true } : TS).restart keep z) = s8 at HRs HOp
              generalize ({ jf 1048576 (base :: L) 0 with lost := true } : TS) = s7 at HRs HRn
              have HAl := Lib.hid (fun A' c' W hR hM => alike_any A' A L.length k c' c L L W hR hM (by rw [HLL.out]; omega))
              rw [alikeB_yes rfl] at HAl
              have HLL2 := HLL
              clear hop hok hle HFu
              go_wp2_with (first
                | (go_at_call 52; refine (HF0.out _ hT).mono ?_; rintro e w5 ⟨rfl, ht5⟩; have hj5 : JAt w5 q p k := Cells.grown hj ht5.only (by simpa using hqp); have hbw5 : Below w.heap.size w w5 := below_only hbel ht5.only hwp hT.lt)
                | (go_at_call 73; refine (HRn.out _ ht5.tape hj5 (hb1.below hbw5)).mono ?_; rintro e w6 ⟨rfl, hW⟩; have hbw6 := below_two hbw5 hW.two hwp hwq hbw5.size)
                | (go_at_call 55; refine (HRs.out _ hW.tape).mono ?_; rintro e w7 ⟨rfl, ht7⟩; have hbw7 : Below w.heap.size w w7 := below_only hbw6 ht7.only hwp (TapeAt.lt hW.tape))
                | (go_at_call 71; refine (HOp.out _ ht7.tape (Bs.nil _ _)).mono ?_; rintro e w8 ⟨hT8, hg8, ⟨_, qq, A1, c1, xx, A2, c2, xs, hxs, rfl, hq, hjj, hB1, hR⟩ | ⟨hne, _⟩⟩; rotate_left; (exact absurd rfl hne); have e1 : base = xx := (List.cons.inj hxs).1; subst e1; have e2 : L = xs := (List.cons.inj hxs).2; subst e2; have hbw8 : Below w.heap.size w w8 := below_only hbw7 hg8 hwp ht7.tape.lt; have s1 := conv A1 _ c1 _ _ hB1; have s2 := conv B m d _ _ (hb.below hbw8); have hL8 := hL.below hbw8; clear hxs)
                | (go_at_call 72; refine (HAl.out _ _ _ hR hL8).mono ?_; rintro e w9 ⟨rfl, j9, rfl⟩))
              go_ret
              exact ⟨rfl, below_drewN hbw8 _⟩
            · have HF1 := Lib.hid (fun W h => HFu.out 1 W h (by omega))
              rw [arm_jf (by omega)] at HF1
              have HRn := Lib.hid (fun W hT hj hl => renew_any p q (jf 1048576 (base :: L) 1) k B1 m1 d1 next W hT hj hqp hl)
              rw [renew_go (by rw [HBL1.out]; omega) (by rw [HBL1.out]; omega) (by decide)] at HRn
              obtain ⟨s9, hop⟩ := keeps_next (by rw [HBL1.out]; exact hm1) keep z
              have hok : (jf 1048576 [next] (dec 1)).Ok := by
                refine ⟨Nat.le_refl _, ?_, by show 1048576 ≤ 1048576; omega, by show -1 ≤ dec 1; decide, by show dec 1 ≤ 9223372036854775807; decide⟩
                show (framed [next]).length ≤ 1048576
                rw [framed_one, HBL1.out]; omega
              have hle : (jf 1048576 [next] (dec 1)).b.length ≤ 1000000 := by
                show (framed [next]).length ≤ _
                rw [framed_one, HBL1.out]; omega
              have HRs := Lib.hid (fun W h => restart_any p (jf 1048576 [next] (dec 1)) keep z W h)
              have HOp := Lib.hid (fun W h hb => open_any p ((jf 1048576 [next] (dec 1)).restart keep z) none 0 0 [] W h hb (Nat.le_trans (restart_len hok keep z) hle))
              rw [hop] at HOp
              generalize ((jf 1048576 [next] (dec 1)).restart keep z) = s8 at HRs HOp
              generalize (jf 1048576 [next] (dec 1)) = s7 at HRs HRn
              have HLn := Lib.hid (fun W h => jlen_any q p 0 W h)
              clear hop hok hle HFu
              go_wp2_with (first
                | (go_at_call 52; refine (HF1.out _ hT).mono ?_; rintro e w5 ⟨rfl, ht5⟩; have hj5 : JAt w5 q p k := Cells.grown hj ht5.only (by simpa using hqp); have hbw5 : Below w.heap.size w w5 := below_only hbel ht5.only hwp hT.lt)
                | (go_at_call 73; refine (HRn.out _ ht5.tape hj5 (hb1.below hbw5)).mono ?_; rintro e w6 ⟨rfl, hW⟩; have hbw6 := below_two hbw5 hW.two hwp hwq hbw5.size)
                | (go_at_call 74; refine (HLn.out _ hW.jou).mono ?_; rintro e w6' ⟨rfl, rfl⟩)
                | (go_at_call 55; refine (HRs.out _ hW.tape).mono ?_; rintro e w7 ⟨rfl, ht7⟩; have hbw7 : Below w.heap.size w w7 := below_only hbw6 ht7.only hwp (TapeAt.lt hW.tape))
                | (go_at_call 71; refine (HOp.out _ ht7.tape (Bs.nil _ _)).mono ?_; rintro e w8 ⟨hT8, hg8, ⟨_, qq, A1, c1, xx, A2, c2, xs, hxs, rfl, hq, hjj, hB1, hR⟩ | ⟨hne, _⟩⟩; rotate_left; (exact absurd rfl hne); have e1 : next = xx := (List.cons.inj hxs).1; subst e1; have e2 : [] = xs := (List.cons.inj hxs).2; subst e2; have hbw8 : Below w.heap.size w w8 := below_only hbw7 hg8 hwp ht7.tape.lt; have s1 := conv A1 _ c1 _ _ hB1; have s2 := conv B1 m1 d1 _ _ (hb1.below hbw8); clear hxs))
              go_ret
              exact ⟨rfl, hbw8⟩
      · go_enter Try.func27, Try.ntmps27
        go_wp2_with (first
          | (go_at_call 66; have hb0 := hw1; refine (awake18_any _).mono ?_; rintro e w2 ⟨rfl, hb2⟩)
          | (go_at_call 66; refine (awake18_any _).mono ?_; rintro e w1 ⟨rfl, hw1⟩))
        go_ret
        exact ⟨rfl, chain hw1 hb2⟩
    · go_enter Try.func27, Try.ntmps27
      go_wp2_with (first
        | (go_at_call 66; have hb0 := hw1; refine (awake18_any _).mono ?_; rintro e w2 ⟨rfl, hb2⟩)
        | (go_at_call 66; refine (awake18_any _).mono ?_; rintro e w1 ⟨rfl, hw1⟩))
      go_ret
      exact ⟨rfl, chain hw1 hb2⟩
  · go_enter Try.func27, Try.ntmps27
    go_wp2_with (first
      | (go_at_call 66; have hb0 := hw1; refine (awake18_any _).mono ?_; rintro e w2 ⟨rfl, hb2⟩)
      | (go_at_call 66; refine (awake18_any _).mono ?_; rintro e w1 ⟨rfl, hw1⟩))
    go_ret
    exact ⟨rfl, chain hw1 hb2⟩
end Go.Proofs.Ytcgdkfhfchkdlaa
