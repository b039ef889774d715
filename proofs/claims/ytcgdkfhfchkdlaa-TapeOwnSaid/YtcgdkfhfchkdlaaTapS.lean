/- The law TapeFuses of layer 17, walked: it answers true, whatever acts, whatever number. -/
import Derived.Test.YtcgdkfhfchkdlaaTapN
namespace Go.Proofs.Ytcgdkfhfchkdlaa
open Go.RowKit TapM
theorem FewP.len {L : List TAct} (h : FewP L L.length) {a : TAct} (ha : a ∈ L) : a.l.length ≤ 300 := by
  obtain ⟨j, hj, rfl⟩ := List.getElem_of_mem ha
  exact h.2 j hj hj
theorem fewB_true {L : List TAct} (h : fewB L = true) : FewP L L.length := by
  by_cases h' : FewP L L.length
  · exact h'
  · rw [fewB_no h'] at h; cases h
theorem kind_mod (k : UInt8) : ∃ m : UInt8, (k.toNat : Int) % 3 = (m.toNat : Int) ∧ m.toNat < 3 := by
  refine ⟨k % 3, ?_, ?_⟩
  · rw [UInt8.toNat_mod]; simp
  · rw [UInt8.toNat_mod]; exact Nat.mod_lt _ (by decide)
theorem restart_00 (p : Nat) (s : TS) (w : World) (h : TapeAt w p s) :
    Calls Try.prog 55 #[.pointer (some ⟨p, 0, none⟩), .int .i64 0, .int .u8 0] w fun e w' => e = .returned (.tuple #[]) ∧ Turned w w' p (s.restart 0 0) := restart_any p s 0 0 w h
theorem lost_00 (p : Nat) (s : TS) (w : World) (h : TapeAt w p (s.restart 0 0)) : Calls Try.prog 54 #[.pointer (some ⟨p, 0, none⟩)] w fun e w' => e = .returned (.bool false) ∧ w = w' := lost_any p (s.restart 0 0) w h
theorem sync_00 (p : Nat) (s : TS) (w : World) (h : TapeAt w p (s.restart 0 0)) : Calls Try.prog 56 #[.pointer (some ⟨p, 0, none⟩)] w fun e w' => e = .returned (.int .i64 0) ∧ Turned w w' p (s.restart 0 0).sync.1 := sync_any p (s.restart 0 0) w h
set_option maxRecDepth 100000 in
set_option maxHeartbeats 3200000 in
theorem tapeFuses_law (A : Option Addr) (n c : Nat) (L : List TAct) (y : UInt8) (w : World) (hL : Acts w A n L) (hn : n ≤ 9223372036854775807) :
    Calls Try.prog 20 #[.slice A n c, .int .u8 (y.toNat : Int)] w fun e w' => e = .returned (.bool true) ∧ Below w.heap.size w w' := by
  have HW := Lib.hid (fun w h => few_any A n c L w h hn)
  by_cases hF : fewB L = true
  · rw [hF] at HW
    have HF := Lib.hid (fewB_true hF)
    have hln := hL.1
    have h61 : n ≤ 61 := by have := HF.out.1; omega
    clear hF hln
    have hy := y.toNat_lt
    obtain ⟨Y, hY⟩ : ∃ Y, y.toNat = Y := ⟨_, rfl⟩
    rw [hY] at hy ⊢
    clear hY
    have HZ := Lib.hid (Fz.start (n := Y) (by omega))
    have HFu := Lib.hid (fun p w h => fuse_any p (TS.new (1048576 : Int).toNat) (Y : Int) w h (by omega))
    have hYr : (TS.new (1048576 : Int).toNat).arm (Y : Int) = (TS.new 1048576).arm (Y : Int) := rfl
    rw [hYr] at HFu
    clear hYr
    rw [HZ.out.1] at HFu
    have HZ2 := Lib.hid HZ.out.2
    clear HZ
    generalize ((TS.new 1048576).arm (Y : Int)).1 = s0 at HFu HZ2
    go_enter Try.func20, Try.ntmps20
    go_wp2_with (first
      | (go_at_call 49; refine (awake17_any _).mono ?_; rintro e w1 ⟨rfl, hb1⟩)
      | (go_at_call 50; refine (HW.out _ (hL.below hb1)).mono ?_; rintro e w2 ⟨rfl, rfl⟩)
      | (go_at_call 51; refine (new_at 1048576 (by omega) (by omega) _).mono ?_; rintro e w2 ⟨p, rfl, hp, ht, hb2⟩)
      | (go_at_call 52; refine (HFu.out p _ ht).mono ?_; rintro e w3 ⟨rfl, ht3⟩))
    have hwp : w.heap.size ≤ p := Nat.le_trans hb1.size hp
    have hbw3 : Below w.heap.size w w3 := below_only (chain hb1 hb2) ht3.only hwp ht.lt
    have ht4 := ht3.tape
    clear hb1 hb2 ht3 ht hp
    go_loopw [7, 8, 9, 10, 34] (fun v7 v8 v9 v10 v34 wr => ∃ (k d : Nat) (s : TS), k ≤ n ∧ v7 = .int .i64 d ∧ v34 = .int .i64 k ∧ Hid (Fz s Y d k) ∧ d ≤ Y ∧ TapeAt wr p s ∧ Below w.heap.size w wr) (fun _ _ _ _ v34 _ => n - (intOf v34).toNat)
    case atStart => exact ⟨0, 0, s0, by omega, rfl, rfl, HZ2.out, by omega, ht4, hbw3⟩
    case round =>
      obtain ⟨k, d, s, hk, rfl, rfl, hz, hdY, hT, hbel⟩ := hrel
      by_cases hkn : k < n
      · have i0 : (k : Int) < (n : Int) := by omega
        obtain ⟨b, o, a, rfl, ha, g0, ⟨A', c', g1, hl, _⟩, g2, g3, hn0, hn1⟩ := (hL.below hbel).at_ hkn
        have hal := HF.out.len ha
        obtain ⟨m, hm, hm3⟩ := kind_mod a.kind
        have HA := Lib.hid (fun W h hl => act_any p s ⟨m, a.l, a.n, a.y⟩ A' c' W h hl hn1)
        have hkk : wr.heap.size ≠ p := by have := hT.lt; omega
        by_cases hd : d < Y
        · have hr := hz.out.yes hd (by omega) (a := ⟨m, a.l, a.n, a.y⟩) hal hn1 hm3
          rw [hr.1] at HA
          have HR := Lib.hid hr.2
          generalize (s.act ⟨m, a.l, a.n, a.y⟩).1 = s2 at HA HR
          clear hr
          have hbn := cell_lt g0
          go_wp2_with (go_at_call 53; refine (HA.out _ (hT.alloc _) (hl.alloc _)).mono ?_; rintro e w5 ⟨rfl, ht5⟩)
          exact ⟨⟨k + 1, d + 1, s2, by omega, by go_num, by go_num, HR.out, by omega, ht5.tape, below_only (bl_alloc hbel _) ht5.only hwp (by have := hT.lt; simp; omega)⟩, by simp [intOf]; omega⟩
        · have hr := hz.out.no hd (by omega) (a := ⟨m, a.l, a.n, a.y⟩) hal hn1 hm3
          rw [hr.1] at HA
          have HR := Lib.hid hr.2
          generalize (s.act ⟨m, a.l, a.n, a.y⟩).1 = s2 at HA HR
          have HLo := Lib.hid (fun w h => lost_any p s2 w h)
          rw [HR.out.1] at HLo
          clear hr
          have hbn := cell_lt g0
          go_wp2_with (first
            | (go_at_call 53; refine (HA.out _ (hT.alloc _) (hl.alloc _)).mono ?_; rintro e w5 ⟨rfl, ht5⟩)
            | (go_at_call 54; refine (HLo.out _ ht5.tape).mono ?_; rintro e w6 ⟨rfl, rfl⟩))
          exact ⟨⟨k + 1, d, s2, by omega, rfl, by go_num, HR.out.2, by omega, ht5.tape, below_only (bl_alloc hbel _) ht5.only hwp (by have := hT.lt; simp; omega)⟩, by simp [intOf]; omega⟩
      · go_wp2_with (first
          | (go_at_call 55; refine (restart_00 p s _ hT).mono ?_; rintro e w5 ⟨rfl, ht5⟩)
          | (go_at_call 54; refine (lost_00 p s _ ht5.tape).mono ?_; rintro e w6 ⟨rfl, rfl⟩)
          | (go_at_call 56; refine (sync_00 p s _ ht5.tape).mono ?_; rintro e w6 ⟨rfl, ht6⟩))
        go_ret
        exact ⟨rfl, below_only (below_only hbel ht5.only hwp hT.lt) ht6.only hwp ht5.tape.lt⟩
  · have hF' : fewB L = false := by simpa using hF
    rw [hF'] at HW
    clear hF hF'
    go_enter Try.func20, Try.ntmps20
    go_wp2_with (first
      | (go_at_call 49; have hb0 := hb1; refine (awake17_any _).mono ?_; rintro e w2 ⟨rfl, hb2⟩)
      | (go_at_call 49; refine (awake17_any _).mono ?_; rintro e w1 ⟨rfl, hb1⟩)
      | (go_at_call 50; refine (HW.out _ (hL.below hb1)).mono ?_; rintro e w2 ⟨rfl, rfl⟩))
    go_ret
    exact ⟨rfl, chain hb1 hb2⟩
end Go.Proofs.Ytcgdkfhfchkdlaa
