/- is and awake of the laws of layer 17, walked. -/
import Derived.Test.YtcgdkfhfchkdlaaTapM
import Derived.Test.YtcgdkfhfchkdlaaFrmL
namespace Go.Proofs.Ytcgdkfhfchkdlaa
open Go.RowKit TapM
theorem safe_q (p : Nat) (s : TS) (w : World) (h : TapeAt w p s) : Calls Try.prog 61 #[.pointer (some ⟨p, 0, none⟩)] w fun e w' => e = .returned (.int .i64 (s.safe : Int)) ∧ ∃ k, w' = w.drewN k :=
  (safe_any p s w h).mono fun _ _ ⟨he, hw⟩ => ⟨he, 0, hw.symm⟩
theorem len_q (p : Nat) (s : TS) (w : World) (h : TapeAt w p s) : Calls Try.prog 62 #[.pointer (some ⟨p, 0, none⟩)] w fun e w' => e = .returned (.int .i64 (s.b.length : Int)) ∧ ∃ k, w' = w.drewN k :=
  (len_any p s w h).mono fun _ _ ⟨he, hw⟩ => ⟨he, 0, hw.symm⟩
theorem lost_q (p : Nat) (s : TS) (w : World) (h : TapeAt w p s) : Calls Try.prog 54 #[.pointer (some ⟨p, 0, none⟩)] w fun e w' => e = .returned (.bool s.lost) ∧ ∃ k, w' = w.drewN k :=
  (lost_any p s w h).mono fun _ _ ⟨he, hw⟩ => ⟨he, 0, hw.symm⟩
set_option maxHeartbeats 1600000 in
theorem is_any (p : Nat) (s : TS) (A : Option Addr) (c : Nat) (w : World) (h : TapeAt w p s) (hb : Bs w A s.b.length s.b) :
    Calls Try.prog 58 #[.pointer (some ⟨p, 0, none⟩), .agg #[.int .i64 (s.cap : Int), .slice A s.b.length c, .int .i64 (s.safe : Int), .int .i64 s.fuse, .bool s.lost]] w fun e w' => e = .returned (.bool true) ∧ Below w.heap.size w w' := by
  have n1 : ((s.safe : Int) != (s.safe : Int)) = false := by simp
  have n2 : ((s.b.length : Int) != (s.b.length : Int)) = false := by simp
  cases hl : s.lost with
  | true =>
    have HS := Lib.hid (fun W hW => safe_q p s W hW)
    have HL := Lib.hid (fun W hW => len_q p s W hW)
    have HO := Lib.hid (fun W hW => lost_q p s W hW)
    rw [hl] at HO
    have HR := Lib.hid (fun W hW => read_lost p s W hW hl)
    have hW := h.alloc (.cells #[.int .i64 (s.cap : Int), .slice A s.b.length c, .int .i64 (s.safe : Int), .int .i64 s.fuse, .bool true] 77)
    clear hl
    go_enter Try.func58, Try.ntmps58
    go_wp2_with (go_at_call 60; refine (HR.out _ hW).mono ?_; rintro e w1 ⟨rfl, rfl⟩)
    go_quiet ((first | (go_at_call 61; exact q_of (HS.out _ (hW.drewN _))) | (go_at_call 62; exact q_of (HL.out _ (hW.drewN _))) | (go_at_call 54; exact q_of (HO.out _ (hW.drewN _)))))
    go_wp2
    go_ret
    exact ⟨rfl, below_drewN (bl_alloc (Below.refl _ w) _) _⟩
  | false =>
    have HS := Lib.hid (fun W hW => safe_q p s W hW)
    have HL := Lib.hid (fun W hW => len_q p s W hW)
    have HO := Lib.hid (fun W hW => lost_q p s W hW)
    rw [hl] at HO
    have HR := Lib.hid (fun W hW => read_on p s W hW hl)
    have hW := h.alloc (.cells #[.int .i64 (s.cap : Int), .slice A s.b.length c, .int .i64 (s.safe : Int), .int .i64 s.fuse, .bool false] 77)
    clear hl
    go_enter Try.func58, Try.ntmps58
    go_wp2_with (go_at_call 60; refine (HR.out _ hW).mono ?_; rintro e w2 ⟨A2, c2, rfl, hown, hb2⟩; have hW2 := hW.below hb2; obtain ⟨d0, d1, d2, d3, d4, f1⟩ := five ((Cells.new w 77 _).below hb2); have s1 := run_str c2 hown.bs; have s2 := run_str c ((hb.alloc _).below hb2); have hbw : Below w.heap.size w w2 := (bl_alloc (Below.refl _ w) _).trans (hb2.mono (by simp)))
    generalize hS : (⟨s.b.toArray⟩ : ByteArray) = S at s1 s2
    clear hS
    go_quiet ((first | (go_at_call 61; exact q_of (HS.out _ (hW2.drewN _))) | (go_at_call 62; exact q_of (HL.out _ (hW2.drewN _))) | (go_at_call 54; exact q_of (HO.out _ (hW2.drewN _)))))
    go_wp2
    go_ret
    exact ⟨by simp, below_drewN hbw _⟩
/-! ### awake -/
theorem new_at (z : Int) (h0 : 0 ≤ z) (h1 : z ≤ 1048576) (w : World) : Calls Try.prog 51 #[.int .i64 z] w fun e w' => ∃ p, e = .returned (.tuple #[.pointer (some ⟨p, 0, none⟩), .int .i64 0]) ∧ w.heap.size ≤ p ∧ TapeAt w' p (TS.new z.toNat) ∧ Below w.heap.size w w' := by
  have h := new_ok z.toNat (by omega) w
  rw [show ((z.toNat : Nat) : Int) = z from by omega] at h
  exact h
theorem awake_append : (TS.new (10 : Int).toNat).append [97, 98] = (⟨10, [97, 98], 0, -1, false⟩, 0) := rfl
set_option maxHeartbeats 800000 in
theorem awake17_any (w : World) : Calls Try.prog 49 #[] w fun e w' => e = .returned (.bool true) ∧ Below w.heap.size w w' := by
  have kc := fun (w : World) (C : Array Value) (n c : Nat) => Lib.run_convert_bytes_const (P := Try.prog) w 33 5 C n c Try.underlying33 Try.underlying5
  have HN := Lib.hid (fun w => new_at 10 (by omega) (by omega) w)
  have HA := Lib.hid (fun p A c w h hl => append_any p (TS.new (10 : Int).toNat) A 2 c [97, 98] w h hl)
  rw [awake_append] at HA
  have HL := Lib.hid (fun p w h => len_any p ⟨10, [97, 98], 0, -1, false⟩ w h)
  have HS := Lib.hid (fun p w h => safe_any p ⟨10, [97, 98], 0, -1, false⟩ w h)
  go_enter Try.func49, Try.ntmps49
  go_wp2_with (first
    | (go_at_call 51; refine (HN.out _).mono ?_; rintro e w1 ⟨p, rfl, hp, ht, hb1⟩)
    | (go_at_call 64; refine (HA.out p _ _ _ (ht.alloc _) (Bs.lit w1 5 [97, 98] #[.int .u8 97, .int .u8 98] (2, 3) rfl)).mono ?_; rintro e w2 ⟨rfl, ht2⟩)
    | (go_at_call 62; refine (HL.out p _ ht2.tape).mono ?_; rintro e w3 ⟨rfl, rfl⟩)
    | (go_at_call 61; refine (HS.out p _ ht2.tape).mono ?_; rintro e w3 ⟨rfl, rfl⟩))
  go_ret
  exact ⟨rfl, below_only (bl_alloc hb1 _) ht2.only hp (by have := ht.lt; simp; omega)⟩
end Go.Proofs.Ytcgdkfhfchkdlaa
