/- open and awake of the laws of layer 18, walked. -/
import Derived.Test.YtiheeajepnpejaaJouA
import Derived.Test.YtiheeajepnpejaaJouLaw
namespace Go.Proofs.Ytiheeajepnpejaa
open Go.RowKit TapM FrameM JouM
set_option maxHeartbeats 1600000 in
theorem jopen_any (z : Int) (h0 : 0 ≤ z) (h1 : z ≤ 1048576) (B : Option Addr) (m d : Nat) (base : List UInt8) (w : World) (hb : Bs w B m base) (hm : m ≤ 60000) (hz : (m : Int) + 8 ≤ z) :
    Calls Try.prog 23 #[.int .i64 z, .slice B m d] w fun e w' => ∃ p q, e = .returned (.tuple #[.pointer (some ⟨q, 0, none⟩), .pointer (some ⟨p, 0, none⟩), .bool true]) ∧ w.heap.size ≤ p ∧ p < q ∧ TapeAt w' p (jf z.toNat [base] (-1)) ∧ JAt w' q p 0 ∧ Below w.heap.size w w' := by
  have hbl := hb.1
  have HO := Lib.hid (fun p W h hb => open_any p (TS.new z.toNat) B m d base W h hb (by simp [TS.new]))
  rw [opened_new (by omega) (by omega)] at HO
  have HBL := Lib.hid hbl
  clear hbl
  go_enter Try.func23, Try.ntmps23
  go_wp2_with (first
    | (go_at_call 6; refine (new_at z h0 h1 _).mono ?_; rintro e w1 ⟨p, rfl, hp, ht, hb1⟩)
    | (go_at_call 29; refine (HO.out p _ ht (hb.below hb1)).mono ?_; rintro e w2 ⟨hT, hg, ⟨_, q, A1, c1, x, A2, c2, xs, hxs, rfl, hq, hj, hB1, hR⟩ | ⟨hne, _⟩⟩; rotate_left; (exact absurd rfl hne); obtain ⟨rfl, rfl⟩ : x = base ∧ xs = [] := (by simpa using hxs.symm); have s1 := conv A1 _ c1 _ _ hB1; have hbw2 : Below w.heap.size w w2 := below_only hb1 hg hp ht.lt; have s2 := conv B m d _ _ (hb.below hbw2)))
  go_ret3
  exact ⟨p, q, rfl, hp, Nat.lt_of_lt_of_le ht.lt hq, hT, hj, hbw2⟩
theorem awake_state : ((jf 100 [[98, 97, 115, 101], [97]] (-1)).b.length : Int) = 21 ∧ ((jf 100 [[98, 97, 115, 101], [97]] (-1)).safe : Int) = 21 := by
  have h : (framed [[98, 97, 115, 101], [97]]).length = 21 := by rw [framed_cons, List.length_append, frame_length, framed_one]; rfl
  exact ⟨by show ((framed _).length : Int) = 21; rw [h]; rfl, by show ((framed _).length : Int) = 21; rw [h]; rfl⟩
theorem awake_write : JouM.write (jf (100 : Int).toNat [[98, 97, 115, 101]] (-1)) 0 [97] = ((jf 100 [[98, 97, 115, 101], [97]] (-1), 1), 0) := by
  rw [write_go (by decide) (by rw [framed_one]; decide) (.inl rfl)]
  rfl
set_option maxHeartbeats 1600000 in
theorem awake18_any (w : World) : Calls Try.prog 5 #[] w fun e w' => e = .returned (.bool true) ∧ Below w.heap.size w w' := by
  have kc := fun (w : World) (C : Array Value) (n c : Nat) => Lib.run_convert_bytes_const (P := Try.prog) w 22 5 C n c Try.underlying22 Try.underlying5
  have HO := Lib.hid (fun B c W h => jopen_any 100 (by omega) (by omega) B 4 c [98, 97, 115, 101] W h (by omega) (by omega))
  have HWr := Lib.hid (fun p q A c W h hj hqp hl => write_any p q (jf (100 : Int).toNat [[98, 97, 115, 101]] (-1)) 0 A 1 c [97] W h hj hqp hl (by omega))
  rw [awake_write] at HWr
  have HL := Lib.hid (fun p w h => len_any p (jf 100 [[98, 97, 115, 101], [97]] (-1)) w h)
  have HS := Lib.hid (fun p w h => safe_any p (jf 100 [[98, 97, 115, 101], [97]] (-1)) w h)
  rw [awake_state.1] at HL
  rw [awake_state.2] at HS
  have HJ := Lib.hid (fun q p w h => jlen_any q p 1 w h)
  generalize jf (100 : Int).toNat [[98, 97, 115, 101]] (-1) = s0 at HO HWr
  generalize jf 100 [[98, 97, 115, 101], [97]] (-1) = s1 at HWr HL HS
  go_enter Try.func5, Try.ntmps5
  go_wp2_with (first
    | (go_at_call 23; refine (HO.out _ _ _ (Bs.lit w 5 [98, 97, 115, 101] #[.int .u8 98, .int .u8 97, .int .u8 115, .int .u8 101] (4, 5) rfl)).mono ?_; rintro e w1 ⟨p, q, rfl, hp, hpq, hT, hj, hb1⟩)
    | (go_at_call 13; refine (HWr.out p q _ _ _ (hT.alloc _) (Cells.alloc hj _) (by omega) (Bs.lit w1 5 [97] #[.int .u8 97] (1, 2) rfl)).mono ?_; rintro e w2 ⟨rfl, hWr⟩)
    | (go_at_call 15; refine (HJ.out q p _ hWr.jou).mono ?_; rintro e w3 ⟨rfl, rfl⟩)
    | (go_at_call 11; refine (HL.out p _ hWr.tape).mono ?_; rintro e w3 ⟨rfl, rfl⟩)
    | (go_at_call 24; refine (HS.out p _ hWr.tape).mono ?_; rintro e w3 ⟨rfl, rfl⟩))
  go_ret
  have hp' : w.heap.size ≤ p := by simp at hp; omega
  have hb : Below w.heap.size w w1 := (bl_alloc (Below.refl _ w) _).trans (hb1.mono (by simp))
  exact ⟨rfl, below_two (bl_alloc hb _) hWr.two hp' (by omega) (bl_alloc hb _).size⟩
end Go.Proofs.Ytiheeajepnpejaa
