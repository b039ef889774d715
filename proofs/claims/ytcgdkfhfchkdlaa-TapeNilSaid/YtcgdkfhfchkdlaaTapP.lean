/- The laws TapeNil and TapePlays of layer 17, walked: each answers true, whatever befalls the tape. -/
import Derived.Test.YtcgdkfhfchkdlaaTapN
namespace Go.Proofs.Ytcgdkfhfchkdlaa
open Go.RowKit TapM
set_option maxRecDepth 100000 in
set_option maxHeartbeats 1600000 in
theorem tapeNil_law (A : Option Addr) (n c : Nat) (l : List UInt8) (x : Int) (y : UInt8) (w : World) (_ : Bs w A n l) (_ : -9223372036854775808 ≤ x) (_ : x ≤ 9223372036854775807) :
    Calls Try.prog 24 #[.slice A n c, .int .i64 x, .int .u8 (y.toNat : Int)] w fun e w' => e = .returned (.bool true) ∧ Below w.heap.size w w' := by
  go_enter Try.func24, Try.ntmps24
  go_wp2_with (first
    | (go_at_call 55; refine (restart_nil _ _ _).mono ?_; rintro e w1 ⟨rfl, rfl⟩)
    | (go_at_call 60; refine (read_nil _).mono ?_; rintro e w1 ⟨rfl, rfl⟩)
    | (go_at_call 49; refine (awake17_any _).mono ?_; rintro e w1 ⟨rfl, hb1⟩)
    | (go_at_call 64; refine (append_nil _ _ _ _).mono ?_; rintro e w1 ⟨rfl, rfl⟩)
    | (go_at_call 56; refine (sync_nil _).mono ?_; rintro e w1 ⟨rfl, rfl⟩)
    | (go_at_call 65; refine (replace_nil _ _ _ _).mono ?_; rintro e w1 ⟨rfl, rfl⟩)
    | (go_at_call 52; refine (fuse_nil _ _).mono ?_; rintro e w1 ⟨rfl, rfl⟩)
    | (go_at_call 61; refine (safe_nil _).mono ?_; rintro e w1 ⟨rfl, rfl⟩)
    | (go_at_call 62; refine (len_nil _).mono ?_; rintro e w1 ⟨rfl, rfl⟩)
    | (go_at_call 54; refine (lost_nil _).mono ?_; rintro e w1 ⟨rfl, rfl⟩)
    | (go_at_call 63; refine (clone_tape_nil _).mono ?_; rintro e w1 ⟨rfl, rfl⟩))
  go_ret
  exact ⟨rfl, hb1⟩
end Go.Proofs.Ytcgdkfhfchkdlaa
