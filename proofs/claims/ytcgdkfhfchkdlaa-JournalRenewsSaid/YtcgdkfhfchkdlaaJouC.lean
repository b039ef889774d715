/- The law JournalCrashes of layer 18, walked: it answers true, wherever the power goes. -/
import Derived.Test.YtcgdkfhfchkdlaaJouP
namespace Go.Proofs.Ytcgdkfhfchkdlaa
open Go.RowKit TapM FrameM JouM
theorem Rws.drewN {w : World} {A : Option Addr} {n : Nat} {L : List (List UInt8)} (h : Rws w A n L) (k : Nat) : Rws (w.drewN k) A n L := h
/-- The first k records of a slice of records. -/
theorem Rws.take {w : World} {A : Option Addr} {n : Nat} {L : List (List UInt8)} (h : Rws w A n L) {k : Nat} (hk : k ≤ n) : Rws w A k (L.take k) := by
  obtain ⟨hl, hA⟩ := h
  refine ⟨by rw [List.length_take]; omega, ?_⟩
  by_cases h0 : k = 0
  · exact .inl h0
  · obtain ⟨b, o, hA, hc⟩ := hA.resolve_left (by omega)
    refine .inr ⟨b, o, hA, fun j hj => ?_⟩
    have hj' : j < L.length := by rw [List.length_take] at hj; omega
    obtain ⟨A', c', h1, h2, h3⟩ := hc j hj'
    rw [List.getElem_take]
    exact ⟨A', c', h1, h2, h3⟩
/-- What is told of the tape when its power is back: the base and the first k records, or one more. -/
def Keeps18 (s : TS) (base : List UInt8) (L : List (List UInt8)) (k : Nat) : Prop :=
  s.Ok ∧ s.b.length ≤ 1000000 ∧ ∀ keep y base', base'.length ≤ 60000 → ∃ s2 ys, opened (s.restart keep y) base' = (s2, base :: ys, 0) ∧ (ys = L.take k ∨ (k < L.length ∧ ys = L.take (k + 1)))
theorem framed_small (xs : List (List UInt8)) (h : ∀ x ∈ xs, x.length ≤ 300) : (framed xs).length ≤ 308 * xs.length := by
  induction xs with
  | nil => simp [framed]
  | cons x L ih =>
    have h1 := h x (by simp)
    have h2 := ih fun y hy => h y (by simp [hy])
    rw [framed_cons, List.length_append, frame_length, List.length_cons]
    omega
section
variable {base : List UInt8} {L : List (List UInt8)} {k : Nat}
theorem small_cons (hb : base.length ≤ 300) (hx : ∀ x ∈ L.take k, x.length ≤ 300) : ∀ x ∈ base :: L.take k, x.length ≤ 300 := by
  intro x h
  rcases List.mem_cons.1 h with rfl | h
  · exact hb
  · exact hx x h
theorem keeps_jf {f : Int} (hb : base.length ≤ 300) (hx : ∀ x ∈ L.take k, x.length ≤ 300) (hk : k ≤ 30) (hf0 : -1 ≤ f) (hf1 : f ≤ 9223372036854775807) : Keeps18 (jf 1048576 (base :: L.take k) f) base L k := by
  have h3 := small_cons hb hx
  have hs := framed_small _ h3
  have hl : (base :: L.take k).length ≤ 31 := by simp; omega
  refine ⟨jf_ok (by omega) (by omega) hf0 hf1, by show (framed _).length ≤ _; omega, fun keep y base' hb' => ?_⟩
  obtain ⟨s2, h⟩ := opened_jf (cap := 1048576) (f := f) (keep := keep) (y := y) hb' (fun x hx => Nat.le_trans (h3 x hx) (by omega)) (List.cons_ne_nil _ _) (by omega)
  exact ⟨s2, _, h, .inl rfl⟩
theorem keeps_dead (hb : base.length ≤ 300) (hx : ∀ x ∈ L.take k, x.length ≤ 300) (hk : k ≤ 30) (hkL : k < L.length) (hl : L[k].length ≤ 300) : Keeps18 (dead 1048576 (base :: L.take k) L[k]) base L k := by
  have h3 := small_cons hb hx
  have hs := framed_small _ h3
  have hln : (base :: L.take k).length ≤ 31 := by simp; omega
  have hdl : (dead 1048576 (base :: L.take k) L[k]).b.length = (framed (base :: L.take k)).length + (L[k].length + 8) := by show (framed _ ++ frame _).length = _; rw [List.length_append, frame_length]
  refine ⟨⟨?_, ?_, by show 1048576 ≤ 1048576; omega, by simp [dead], by simp [dead]⟩, by omega, fun keep y base' hb' => ?_⟩
  · show (framed _).length ≤ (framed _ ++ frame _).length
    rw [List.length_append]; omega
  · show (dead 1048576 (base :: L.take k) L[k]).b.length ≤ 1048576
    omega
  · obtain ⟨s2, ys, h, h'⟩ := opened_dead (cap := 1048576) (keep := keep) (y := y) hb' (fun x hx => Nat.le_trans (h3 x hx) (by omega)) (by omega : L[k].length ≤ 60000) (List.cons_ne_nil _ _) (by omega)
    rcases h' with rfl | rfl
    · exact ⟨s2, _, h, .inl rfl⟩
    · refine ⟨s2, L.take k ++ [L[k]], h, .inr ⟨hkL, ?_⟩⟩
      rw [List.take_succ_eq_append_getElem hkL]
end
theorem arm_jf {cap : Nat} {xs : List (List UInt8)} {f n : Int} (hn : 0 ≤ n) : (jf cap xs f).arm n = (jf cap xs n, 0) := by
  unfold TS.arm
  rw [if_neg (by simp [jf]), if_neg (by omega)]
  rfl
theorem dec2 {f : Int} (h : 2 ≤ f) : dec (dec f) = f - 2 := by
  unfold dec
  rw [if_pos (show 0 < f by omega), if_pos (by omega)]
  omega
set_option maxRecDepth 100000 in
set_option maxHeartbeats 3200000 in
theorem journalCrashes_law (B : Option Addr) (m d : Nat) (base : List UInt8) (A : Option Addr) (n c : Nat) (L : List (List UInt8)) (y : UInt8) (keep : Int) (z : UInt8) (w : World) (hb : Bs w B m base) (hL : Rws w A n L) (hcap : n ≤ c) (_ : -9223372036854775808 ≤ keep) (_ : keep ≤ 9223372036854775807) :
    Calls Try.prog 26 #[.slice B m d, .slice A n c, .int .u8 (y.toNat : Int), .int .i64 keep, .int .u8 (z.toNat : Int)] w fun e w' => e = .returned (.bool true) ∧ Below w.heap.size w w' := by
  by_cases hn : n ≤ 30
  · by_cases hm : m ≤ 300
    · have hy := y.toNat_lt
      obtain ⟨Y, hY⟩ : ∃ Y, y.toNat = Y := ⟨_, rfl⟩
      rw [hY] at hy ⊢
      clear hY
      have hbl := hb.1
      have hLl := hL.1
      have kc := fun (w : World) (C : Array Value) (n c : Nat) => Lib.run_convert_bytes_const (P := Try.prog) w 33 5 C n c Try.underlying33 Try.underlying5
      have HO := Lib.hid (fun W h => jopen_any 1048576 (by omega) (by omega) B m d base W h (by omega) (by omega))
      have HFu := Lib.hid (fun p W h => fuse_any p (jf (1048576 : Int).toNat [base] (-1)) (Y : Int) W h (by omega))
      rw [arm_jf (by omega)] at HFu
      have HBL := Lib.hid hbl
      have HLL := Lib.hid hLl
      clear hbl hLl
      go_enter Try.func26, Try.ntmps26
      go_wp2_with (first
        | (go_at_call 66; refine (awake18_any _).mono ?_; rintro e w1 ⟨rfl, hb1⟩)
        | (go_at_call 69; refine (HO.out _ (hb.below hb1)).mono ?_; rintro e w2 ⟨p, q, rfl, hp, hpq, hT, hj, hb2⟩)
        | (go_at_call 52; refine (HFu.out p _ hT).mono ?_; rintro e w3 ⟨rfl, ht3⟩))
      have hwp : w.heap.size ≤ p := Nat.le_trans hb1.size hp
      have hwq : w.heap.size ≤ q := by omega
      have hqp : q ≠ p := by omega
      have hbw3 : Below w.heap.size w w3 := below_only (chain hb1 hb2) ht3.only hwp hT.lt
      have hj3 : JAt w3 q p 0 := Cells.grown hj ht3.only (by simpa using hqp)
      have hT3 := ht3.tape
      clear hb1 hb2 hp ht3 hT hj HO HFu
      go_loopw [14, 15, 16, 51] (fun v14 v15 v16 v51 wr => ∃ k : Nat, k ≤ n ∧ v51 = .int .i64 k ∧ v14 = .int .i64 k ∧ 2 * k ≤ Y ∧ Hid (∀ x ∈ L.take k, x.length ≤ 300) ∧ TapeAt wr p (jf 1048576 (base :: L.take k) ((Y : Int) - 2 * k)) ∧ JAt wr q p k ∧ Below w.heap.size w wr) (fun _ _ _ v51 _ => n - (intOf v51).toNat)
      case atStart => exact ⟨0, by omega, rfl, rfl, by omega, (fun x hx => absurd hx (by simp)), by simpa using hT3, hj3, hbw3⟩
      case round =>
        obtain ⟨k, hk, rfl, rfl, hkY, hx3, hT, hj, hbel⟩ := hrel
        by_cases hkn : k < n
        · have i0 : (k : Int) < (n : Int) := by omega
          obtain ⟨b, o, A', c', x, rfl, hxk, h1, h2, h3⟩ := (hL.below hbel).at_ hkn
          have HXK := Lib.hid hxk
          clear hxk
          by_cases hx : x.length ≤ 300
          · have hsm := framed_small _ (small_cons (by rw [HBL.out]; exact hm) hx3.out)
            have hlen : (base :: L.take k).length ≤ 31 := by simp; omega
            have hx4 : Hid (∀ x' ∈ L.take (k + 1), x'.length ≤ 300) := by
              intro x' hx'
              rw [List.take_add_one, HXK.out] at hx'
              rcases List.mem_append.1 hx' with h | h
              · exact hx3.out x' h
              · simp at h; rw [h]; exact hx
            have HWr := Lib.hid (fun W hT hj hl => write_any p q (jf 1048576 (base :: L.take k) ((Y : Int) - 2 * k)) k A' x.length c' x W hT hj hqp hl (by omega))
            by_cases hf : 2 * k + 2 ≤ Y
            · rw [write_go (by omega) (by omega) (.inr (by omega)), dec2 (by omega)] at HWr
              have e1 : base :: L.take k ++ [x] = base :: L.take (k + 1) := by rw [List.take_add_one, HXK.out]; rfl
              have e2 : (Y : Int) - 2 * k - 2 = (Y : Int) - 2 * ((k + 1 : Nat) : Int) := by omega
              rw [e1, e2] at HWr
              clear e1 e2 hsm hlen
              generalize x.length = q1 at *
              go_wp2_with (go_at_call 70; refine (HWr.out _ hT hj h2).mono ?_; rintro e w5 ⟨rfl, hW⟩)
              exact ⟨⟨k + 1, by omega, by go_num, by go_num, by omega, hx4.out, hW.tape, hW.jou, below_two hbel hW.two hwp hwq hbel.size⟩, by simp [intOf]; omega⟩
            · rw [write_dead (by omega) (by omega) (by omega)] at HWr
              have hxe : x = L[k]'(by rw [HLL.out]; exact hkn) := by have := HXK.out; rw [List.getElem?_eq_getElem (by rw [HLL.out]; exact hkn)] at this; injection this with this; exact this.symm
              have hK : Hid (Keeps18 (dead 1048576 (base :: L.take k) x) base L k) := by subst hxe; exact keeps_dead (by rw [HBL.out]; exact hm) hx3.out (by omega) (by rw [HLL.out]; exact hkn) hx
              generalize dead 1048576 (base :: L.take k) x = sd at HWr hK
              clear hsm hlen hxe
              generalize x.length = q1 at *
              have hokd := hK.out.1
              have HRs := Lib.hid (fun W h => restart_any p sd keep z W h)
              obtain ⟨s9, ys, hop, hys⟩ := hK.out.2.2 keep z [111, 116, 104, 101, 114] (by simp)
              have HOp := Lib.hid (fun A c W h hb => open_any p (sd.restart keep z) A 5 c [111, 116, 104, 101, 114] W h hb (Nat.le_trans (restart_len hokd keep z) hK.out.2.1))
              rw [hop] at HOp
              generalize sd.restart keep z = s8 at HRs HOp
              have hyn : ys.length ≤ 31 := by rcases hys with rfl | ⟨_, rfl⟩ <;> (rw [List.length_take]; omega)
              have kc1 : (k : Int) ≤ (c : Int) := by omega
              have HKA : Hid (alikeB ys (L.take k) = true ∨ (alikeB ys (L.take k) = false ∧ k < n ∧ alikeB ys (L.take (k + 1)) = true)) := by
                rcases hys with rfl | ⟨h1, rfl⟩
                · exact .inl (alikeB_yes rfl)
                · refine .inr ⟨alikeB_no fun e => ?_, by rw [← HLL.out]; exact h1, alikeB_yes rfl⟩
                  have := congrArg List.length e
                  rw [List.length_take, List.length_take] at this
                  omega
              clear hop hys hokd
              rcases HKA.out with hA1 | ⟨hA1, hkn', hA2⟩
              · have HAl := Lib.hid (fun A B' c' W hR hM => alike_any A B' ys.length k c' c ys (L.take k) W hR hM (by omega))
                rw [hA1] at HAl
                clear hA1 HKA
                go_wp2_with (first
                  | (go_at_call 70; refine (HWr.out _ hT hj h2).mono ?_; rintro e w5 ⟨rfl, hW⟩; have hbw5 := below_two hbel hW.two hwp hwq hbel.size)
                  | (go_at_call 55; refine (HRs.out _ hW.tape).mono ?_; rintro e w6 ⟨rfl, ht6⟩)
                  | (go_at_call 71; refine (HOp.out _ _ _ (ht6.tape.alloc _) (Bs.lit w6 5 [111, 116, 104, 101, 114] #[.int .u8 111, .int .u8 116, .int .u8 104, .int .u8 101, .int .u8 114] (5, 6) rfl)).mono ?_; rintro e w7 ⟨hT7, hg7, ⟨_, qq, A1, c1, xx, A2, c2, xs, hxs, rfl, hq, hjj, hB1, hR⟩ | ⟨hne, _⟩⟩; rotate_left; (exact absurd rfl hne); have e1 : base = xx := (List.cons.inj hxs).1; subst e1; have e2 : ys = xs := (List.cons.inj hxs).2; subst e2; have hbw6 : Below w.heap.size w w6 := below_only hbw5 ht6.only hwp (TapeAt.lt hW.tape); have hbw7 : Below w.heap.size w w7 := below_only (bl_alloc hbw6 _) hg7 hwp (TapeAt.lt (ht6.tape.alloc _)); have s1 := conv A1 _ c1 _ _ hB1; have s2 := conv B m d _ _ (hb.below hbw7); have hLk := (hL.below hbw7).take hk; clear hxs)
                  | (go_at_call 72; (with_reducible refine (HAl.out _ _ _ _ hR hLk).mono ?_); rintro e w8 ⟨rfl, j8, rfl⟩))
                go_ret
                exact ⟨rfl, by first | exact below_drewN hbw7 _ | exact below_drewN (below_drewN hbw7 _) _⟩
              · have HAl := Lib.hid (fun A B' c' W hR hM => alike_any A B' ys.length k c' c ys (L.take k) W hR hM (by omega))
                rw [hA1] at HAl
                have HAm := Lib.hid (fun A B' c' W hR hM => alike_any A B' ys.length (k + 1) c' c ys (L.take (k + 1)) W hR hM (by omega))
                rw [hA2] at HAm
                have kc2 : (k : Int) + 1 ≤ (c : Int) := by omega
                have hkn2 : (k : Int) < (n : Int) := by omega
                clear hA1 hA2 HKA
                go_wp2_with (first
                  | (go_at_call 70; refine (HWr.out _ hT hj h2).mono ?_; rintro e w5 ⟨rfl, hW⟩; have hbw5 := below_two hbel hW.two hwp hwq hbel.size)
                  | (go_at_call 55; refine (HRs.out _ hW.tape).mono ?_; rintro e w6 ⟨rfl, ht6⟩)
                  | (go_at_call 71; refine (HOp.out _ _ _ (ht6.tape.alloc _) (Bs.lit w6 5 [111, 116, 104, 101, 114] #[.int .u8 111, .int .u8 116, .int .u8 104, .int .u8 101, .int .u8 114] (5, 6) rfl)).mono ?_; rintro e w7 ⟨hT7, hg7, ⟨_, qq, A1, c1, xx, A2, c2, xs, hxs, rfl, hq, hjj, hB1, hR⟩ | ⟨hne, _⟩⟩; rotate_left; (exact absurd rfl hne); have e1 : base = xx := (List.cons.inj hxs).1; subst e1; have e2 : ys = xs := (List.cons.inj hxs).2; subst e2; have hbw6 : Below w.heap.size w w6 := below_only hbw5 ht6.only hwp (TapeAt.lt hW.tape); have hbw7 : Below w.heap.size w w7 := below_only (bl_alloc hbw6 _) hg7 hwp (TapeAt.lt (ht6.tape.alloc _)); have s1 := conv A1 _ c1 _ _ hB1; have s2 := conv B m d _ _ (hb.below hbw7); have hLk := (hL.below hbw7).take hk; clear hxs)
                  | (go_at_call 72; (with_reducible refine (HAl.out _ _ _ _ hR hLk).mono ?_); rintro e w8 ⟨rfl, j8, rfl⟩)
                  | (go_at_call 72; (refine (HAm.out _ _ _ _ (hR.drewN j8) (((hL.below hbw7).take (k := k + 1) (by omega)).drewN j8)).mono ?_); rintro e w9 ⟨rfl, j9, rfl⟩))
                go_ret
                exact ⟨rfl, by first | exact below_drewN hbw7 _ | exact below_drewN (below_drewN hbw7 _) _⟩
          · generalize x.length = q1 at *
            go_wp2
            go_ret
            exact ⟨rfl, hbel⟩
        · have hK : Hid (Keeps18 (jf 1048576 (base :: L.take k) ((Y : Int) - 2 * k)) base L k) := keeps_jf (by rw [HBL.out]; exact hm) hx3.out (by omega) (by omega) (by omega)
          generalize jf 1048576 (base :: L.take k) ((Y : Int) - 2 * k) = sd at hT hK
          have hokd := hK.out.1
          have HRs := Lib.hid (fun W h => restart_any p sd keep z W h)
          obtain ⟨s9, ys, hop, hys⟩ := hK.out.2.2 keep z [111, 116, 104, 101, 114] (by simp)
          have HOp := Lib.hid (fun A c W h hb => open_any p (sd.restart keep z) A 5 c [111, 116, 104, 101, 114] W h hb (Nat.le_trans (restart_len hokd keep z) hK.out.2.1))
          rw [hop] at HOp
          generalize sd.restart keep z = s8 at HRs HOp
          have hyn : ys.length ≤ 31 := by rcases hys with rfl | ⟨_, rfl⟩ <;> (rw [List.length_take]; omega)
          have kc1 : (k : Int) ≤ (c : Int) := by omega
          have HKA : Hid (alikeB ys (L.take k) = true ∨ (alikeB ys (L.take k) = false ∧ k < n ∧ alikeB ys (L.take (k + 1)) = true)) := by
            rcases hys with rfl | ⟨h1, rfl⟩
            · exact .inl (alikeB_yes rfl)
            · refine .inr ⟨alikeB_no fun e => ?_, by rw [← HLL.out]; exact h1, alikeB_yes rfl⟩
              have := congrArg List.length e
              rw [List.length_take, List.length_take] at this
              omega
          clear hop hys hokd
          rcases HKA.out with hA1 | ⟨hA1, hkn', hA2⟩
          · have HAl := Lib.hid (fun A B' c' W hR hM => alike_any A B' ys.length k c' c ys (L.take k) W hR hM (by omega))
            rw [hA1] at HAl
            clear hA1 HKA
            go_wp2_with (first
              | (go_at_call 55; refine (HRs.out _ hT).mono ?_; rintro e w6 ⟨rfl, ht6⟩)
              | (go_at_call 71; refine (HOp.out _ _ _ (ht6.tape.alloc _) (Bs.lit w6 5 [111, 116, 104, 101, 114] #[.int .u8 111, .int .u8 116, .int .u8 104, .int .u8 101, .int .u8 114] (5, 6) rfl)).mono ?_; rintro e w7 ⟨hT7, hg7, ⟨_, qq, A1, c1, xx, A2, c2, xs, hxs, rfl, hq, hjj, hB1, hR⟩ | ⟨hne, _⟩⟩; rotate_left; (exact absurd rfl hne); have e1 : base = xx := (List.cons.inj hxs).1; subst e1; have e2 : ys = xs := (List.cons.inj hxs).2; subst e2; have hbw6 : Below w.heap.size w w6 := below_only hbel ht6.only hwp (TapeAt.lt hT); have hbw7 : Below w.heap.size w w7 := below_only (bl_alloc hbw6 _) hg7 hwp (TapeAt.lt (ht6.tape.alloc _)); have s1 := conv A1 _ c1 _ _ hB1; have s2 := conv B m d _ _ (hb.below hbw7); have hLk := (hL.below hbw7).take hk; clear hxs)
              | (go_at_call 72; (with_reducible refine (HAl.out _ _ _ _ hR hLk).mono ?_); rintro e w8 ⟨rfl, j8, rfl⟩))
            go_ret
            exact ⟨rfl, by first | exact below_drewN hbw7 _ | exact below_drewN (below_drewN hbw7 _) _⟩
          · exact absurd hkn' hkn
    · go_enter Try.func26, Try.ntmps26
      go_wp2_with (first
        | (go_at_call 66; have hb0 := hb1; refine (awake18_any _).mono ?_; rintro e w2 ⟨rfl, hb2⟩)
        | (go_at_call 66; refine (awake18_any _).mono ?_; rintro e w1 ⟨rfl, hb1⟩))
      go_ret
      exact ⟨rfl, chain hb1 hb2⟩
  · go_enter Try.func26, Try.ntmps26
    go_wp2_with (first
      | (go_at_call 66; have hb0 := hb1; refine (awake18_any _).mono ?_; rintro e w2 ⟨rfl, hb2⟩)
      | (go_at_call 66; refine (awake18_any _).mono ?_; rintro e w1 ⟨rfl, hb1⟩))
    go_ret
    exact ⟨rfl, chain hb1 hb2⟩
end Go.Proofs.Ytcgdkfhfchkdlaa
