/- is and awake of the laws of layer 17, walked. -/
import Derived.Test.YtiheeajepnpejaaTapM
import Derived.Test.YtiheeajepnpejaaFrmL
namespace Go.Proofs.Ytiheeajepnpejaa
open Go.RowKit TapM
theorem safe_q (p : Nat) (s : TS) (w : World) (h : TapeAt w p s) : Calls Try.prog 24 #[.pointer (some ⟨p, 0, none⟩)] w fun e w' => e = .returned (.int .i64 (s.safe : Int)) ∧ ∃ k, w' = w.drewN k :=
  (safe_any p s w h).mono fun _ _ ⟨he, hw⟩ => ⟨he, 0, hw.symm⟩
theorem len_q (p : Nat) (s : TS) (w : World) (h : TapeAt w p s) : Calls Try.prog 11 #[.pointer (some ⟨p, 0, none⟩)] w fun e w' => e = .returned (.int .i64 (s.b.length : Int)) ∧ ∃ k, w' = w.drewN k :=
  (len_any p s w h).mono fun _ _ ⟨he, hw⟩ => ⟨he, 0, hw.symm⟩
theorem lost_q (p : Nat) (s : TS) (w : World) (h : TapeAt w p s) : Calls Try.prog 39 #[.pointer (some ⟨p, 0, none⟩)] w fun e w' => e = .returned (.bool s.lost) ∧ ∃ k, w' = w.drewN k :=
  (lost_any p s w h).mono fun _ _ ⟨he, hw⟩ => ⟨he, 0, hw.symm⟩
/-! ### awake -/
theorem new_at (z : Int) (h0 : 0 ≤ z) (h1 : z ≤ 1048576) (w : World) : Calls Try.prog 6 #[.int .i64 z] w fun e w' => ∃ p, e = .returned (.tuple #[.pointer (some ⟨p, 0, none⟩), .int .i64 0]) ∧ w.heap.size ≤ p ∧ TapeAt w' p (TS.new z.toNat) ∧ Below w.heap.size w w' := by
  have h := new_ok z.toNat (by omega) w
  rw [show ((z.toNat : Nat) : Int) = z from by omega] at h
  exact h
theorem awake_append : (TS.new (10 : Int).toNat).append [97, 98] = (⟨10, [97, 98], 0, -1, false⟩, 0) := rfl
end Go.Proofs.Ytiheeajepnpejaa
