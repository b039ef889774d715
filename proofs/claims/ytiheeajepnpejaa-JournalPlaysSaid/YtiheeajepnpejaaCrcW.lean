/- The walks of the packages crc and tributaryref03: each function answers what CrcM says. -/
import Derived.Test.YtiheeajepnpejaaBase
import Derived.Test.YtiheeajepnpejaaCrcMath
namespace Go.Proofs.Ytiheeajepnpejaa
open Go.RowKit CrcM

theorem u32_and1 (x : Nat) (h : x < 4294967296) : bits .and .u32 (x : Int) 1 = ((x % 2 : Nat) : Int) := by
  have := u32_and_nat x 1 h (by omega)
  rw [Nat.and_one_is_mod] at this
  exact this
theorem u32_xorp (x : Nat) (h : x < 4294967296) : bits .xor .u32 ((x : Int) / 2) 2197175160 = ((x / 2 ^^^ 2197175160 : Nat) : Int) :=
  u32_xor_nat (x / 2) 2197175160 (by omega) (by omega)
theorem u32_xor1 (x : Nat) (h : x < 4294967296) : bits .xor .u32 (x : Int) 4294967295 = ((x ^^^ ones : Nat) : Int) :=
  u32_xor_nat x 4294967295 h (by omega)
theorem stps_pos {k x t : Nat} (hk : k < 8) (h : stps (8 - k) x = t) : stps (8 - (k + 1)) (stp x) = t := by
  rw [← h, show 8 - k = (8 - (k + 1)) + 1 from by omega]; rfl
set_option maxHeartbeats 400000 in
theorem add_any (c b : Nat) (hc : c < 4294967296) (hb : b < 256) (w : World) :
    Calls Try.prog 51 #[.int .u32 c, .int .u8 b] w fun e w' => e = .returned (.int .u32 (CrcM.byte c b)) ∧ w = w' := by
  have hx := u32_xor_nat c b hc (by omega)
  have hlt : c ^^^ b < 4294967296 := Nat.xor_lt_two_pow (n := 32) hc (by omega)
  go_enter Try.func51, Try.ntmps51
  go_wp2
  clear hx
  go_loop [0, 10] (fun c' i => ∃ k x : Nat, k ≤ 8 ∧ x < 4294967296 ∧ i = .int .i64 k ∧ c' = .int .u32 x ∧ Hid (stps (8 - k) x = CrcM.byte c b)) (fun _ i => 8 - (intOf i).toNat)
  case atStart => exact ⟨0, c ^^^ b, by omega, hlt, rfl, by simp, rfl⟩
  case round =>
    obtain ⟨k, x, hk, hx, rfl, rfl, HS⟩ := hrel
    have e1 := u32_and1 x hx
    by_cases hk8 : k < 8
    · by_cases hp : x % 2 = 1
      · have e2 : ((x : Int) % 2 == 1) = true := by simp; omega
        have e3 := u32_xorp x hx
        go_wp2
        have hs : stp x = x / 2 ^^^ 2197175160 := by unfold stp; rw [if_pos hp]; rfl
        refine ⟨⟨k + 1, stp x, by omega, stp_lt hx, by go_num, by rw [hs], stps_pos hk8 HS.out⟩, by simp [intOf]; omega⟩
      · have e2 : ((x : Int) % 2 == 1) = false := by simp; omega
        go_wp2
        have hs : stp x = x / 2 := by unfold stp; rw [if_neg hp, Nat.xor_zero]
        refine ⟨⟨k + 1, stp x, by omega, stp_lt hx, by go_num, by rw [hs]; go_num, stps_pos hk8 HS.out⟩, by simp [intOf]; omega⟩
    · go_wp2
      go_ret
      have hk' : k = 8 := by omega
      subst hk'
      exact ⟨by rw [← HS.out]; rfl, rfl⟩
theorem run_take (c : Nat) (l : List UInt8) (k : Nat) (h : k < l.length) : run c (l.take (k + 1)) = byte (run c (l.take k)) l[k].toNat := by
  rw [List.take_succ_eq_append_getElem h, run_append]; rfl
set_option maxHeartbeats 400000 in
theorem crc_any (A : Option Addr) (n c : Nat) (l : List UInt8) (w : World) (hl : Bs w A n l) (hn : n ≤ 1000000) :
    Calls Try.prog 45 #[.slice A n c] w fun e w' => e = .returned (.int .u32 (CrcM.crc l)) ∧ w = w' := by
  obtain ⟨rfl, hA⟩ := hl
  go_enter Try.func45, Try.ntmps45
  go_wp2
  go_loop [3, 8] (fun c' i => ∃ k : Nat, k ≤ l.length ∧ i = .int .i64 k ∧ c' = .int .u32 (CrcM.run CrcM.ones (l.take k))) (fun _ i => l.length - (intOf i).toNat)
  case atStart => exact ⟨0, by omega, rfl, rfl⟩
  case round =>
    obtain ⟨k, hk, rfl, rfl⟩ := hrel
    have hlt : CrcM.run CrcM.ones (l.take k) < 4294967296 := run_lt _ (by decide)
    by_cases hk8 : k < l.length
    · have hA := hA.resolve_left (by omega)
      obtain ⟨b, o, rfl, hc⟩ := hA
      have hcell := hc k hk8
      have hb : l[k].toNat < 256 := l[k].toNat_lt
      have ht := run_take ones l k hk8
      have HT := Lib.hid ht
      clear hc ht
      go_wp2_with (go_at_call 51; refine (add_any _ _ hlt hb _).mono ?_; rintro e w' ⟨rfl, rfl⟩)
      go_round
      case rel => exact ⟨k + 1, by omega, by go_num, by rw [HT.out]⟩
      case measure => simp [intOf]; omega
    · have e1 := u32_xor1 _ hlt
      go_wp2
      go_ret
      have hk' : k = l.length := by omega
      subst hk'
      exact ⟨by rw [List.take_length]; rfl, rfl⟩

/-! ### Hash -/
/-- The bytes of a text from place k on, backwards. -/
theorem back_take (s : ByteArray) (k : Nat) (h : k < s.size) : (s.data.toList.drop k).reverse = (s.data.toList.drop (k + 1)).reverse ++ [s[k]] := by
  rw [← List.reverse_cons]
  congr 1
  have hk : k < s.data.toList.length := by simpa using h
  rw [List.drop_eq_getElem_cons hk]
  rfl
/-! ### The reference -/
theorem pow_32 {k out : Nat} (hk : k < 32) (h : out < 2 ^ k) : out ≤ 2147483647 := by
  have : 2 ^ k ≤ 2 ^ 31 := Nat.pow_le_pow_right (by decide) (by omega)
  omega
theorem mir_pos {k r out t : Nat} (hk : k < 32) (h : mir (32 - k) r out = t) : mir (32 - (k + 1)) (r / 2) (2 * out + r % 2) = t := by
  rw [← h, show 32 - k = (32 - (k + 1)) + 1 from by omega]; rfl
set_option maxHeartbeats 400000 in
theorem mirror_any (r : Nat) (hr : r < 4294967296) (w : World) :
    Calls Try.prog 53 #[.int .u32 r] w fun e w' => e = .returned (.int .u32 (mir 32 r 0)) ∧ w = w' := by
  go_enter Try.func53, Try.ntmps53
  go_wp2
  go_loop [0, 3, 4] (fun r' o i => ∃ k x out : Nat, k ≤ 32 ∧ x < 4294967296 ∧ i = .int .i64 k ∧ r' = .int .u32 x ∧ o = .int .u32 out ∧ Hid (out < 2 ^ k) ∧ Hid (mir (32 - k) x out = mir 32 r 0)) (fun _ _ i => 32 - (intOf i).toNat)
  case atStart => exact ⟨0, r, 0, by omega, hr, rfl, rfl, rfl, Nat.one_pos, rfl⟩
  case round =>
    obtain ⟨k, x, out, hk, hx, rfl, rfl, rfl, HO, HS⟩ := hrel
    by_cases hk8 : k < 32
    · have ho := pow_32 hk8 HO.out
      go_wp2
      refine ⟨⟨k + 1, x / 2, 2 * out + x % 2, by omega, by omega, by go_num, by go_num, by go_num, ?_, mir_pos hk8 HS.out⟩, by simp [intOf]; omega⟩
      show 2 * out + x % 2 < 2 ^ (k + 1)
      have := HO.out
      rw [Nat.pow_succ]; omega
    · go_wp2
      go_ret
      have hk' : k = 32 := by omega
      subst hk'
      exact ⟨by rw [← HS.out]; rfl, rfl⟩
theorem u32_xorr (r : Nat) : bits .xor .u32 (2 * (r : Int) % 4294967296) 517762881 = ((2 * r % 4294967296 ^^^ rpoly : Nat) : Int) :=
  u32_xor_nat (2 * r % 4294967296) 517762881 (by omega) (by omega)
theorem rsteps_pos {k r x t : Nat} (hk : k < 8) (h : rsteps (8 - k) r x = t) : rsteps (8 - (k + 1)) (rstep r x) (x / 2) = t := by
  rw [← h, show 8 - k = (8 - (k + 1)) + 1 from by omega]; rfl
theorem rstep_lt (r x : Nat) : rstep r x < 4294967296 := by
  unfold rstep
  refine Nat.xor_lt_two_pow (n := 32) (Nat.mod_lt _ (by decide)) ?_
  split <;> decide
theorem rsteps_lt (n : Nat) : ∀ r x : Nat, r < 4294967296 → rsteps n r x < 4294967296 := by
  induction n with
  | zero => exact fun _ _ h => h
  | succ n ih => exact fun r x _ => ih _ _ (rstep_lt r x)
theorem rrun_lt (l : List UInt8) : ∀ r : Nat, r < 4294967296 → rrun r l < 4294967296 := by
  induction l with
  | nil => exact fun _ h => h
  | cons b l ih => exact fun r h => ih _ (rsteps_lt 8 r _ h)
theorem rrun_take (c : Nat) (l : List UInt8) (k : Nat) (h : k < l.length) : rrun c (l.take (k + 1)) = rsteps 8 (rrun c (l.take k)) l[k].toNat := by
  rw [List.take_succ_eq_append_getElem h]; unfold rrun; rw [List.foldl_append]; rfl
set_option maxHeartbeats 400000 in
theorem refcrc_any (A : Option Addr) (n c : Nat) (l : List UInt8) (w : World) (hl : Bs w A n l) (hn : n ≤ 1000000) :
    Calls Try.prog 48 #[.slice A n c] w fun e w' => e = .returned (.int .u32 (CrcM.crc l)) ∧ w = w' := by
  obtain ⟨rfl, hA⟩ := hl
  go_enter Try.func48, Try.ntmps48
  go_wp2
  go_loop [3, 9] (fun c' i => ∃ k : Nat, k ≤ l.length ∧ i = .int .i64 k ∧ c' = .int .u32 (rrun CrcM.ones (l.take k))) (fun _ i => l.length - (intOf i).toNat)
  case atStart => exact ⟨0, by omega, rfl, rfl⟩
  case round =>
    obtain ⟨k, hk, rfl, rfl⟩ := hrel
    have hlt : rrun CrcM.ones (l.take k) < 4294967296 := rrun_lt _ _ (by decide)
    by_cases hk8 : k < l.length
    · have hA := hA.resolve_left (by omega)
      obtain ⟨b, o, rfl, hc⟩ := hA
      have hcell := hc k hk8
      have hb : l[k].toNat < 256 := l[k].toNat_lt
      have ht := rrun_take ones l k hk8
      have HT := Lib.hid ht
      clear hc ht
      generalize rrun CrcM.ones (l.take k) = r0 at hlt HT ⊢
      go_wp2
      go_loop [3, 5, 17] (fun r' x' i => ∃ j r x : Nat, j ≤ 8 ∧ r < 4294967296 ∧ x < 256 ∧ i = .int .i64 j ∧ r' = .int .u32 r ∧ x' = .int .u32 x ∧ Hid (rsteps (8 - j) r x = rsteps 8 r0 l[k].toNat)) (fun _ _ i => 8 - (intOf i).toNat)
      case atStart => exact ⟨0, r0, l[k].toNat, by omega, hlt, hb, rfl, rfl, rfl, rfl⟩
      case round =>
        obtain ⟨j, r, x, hj, hr, hx, rfl, rfl, rfl, HS⟩ := hrel
        by_cases hj8 : j < 8
        · by_cases hq : r / 2147483648 ≠ x % 2
          · have hne : ((r : Int) / 2147483648 != (x : Int) % 2) = true := by rw [bne_iff_ne]; omega
            have e3 := u32_xorr r
            have hs : rstep r x = 2 * r % 4294967296 ^^^ rpoly := by unfold rstep; rw [if_pos hq]
            have HS2 := Lib.hid hs
            clear hs
            go_wp2
            refine ⟨⟨j + 1, rstep r x, x / 2, by omega, rstep_lt r x, by omega, by go_num, by rw [HS2.out], by go_num, rsteps_pos hj8 HS.out⟩, by simp [intOf]; omega⟩
          · have hne : ((r : Int) / 2147483648 != (x : Int) % 2) = false := by rw [bne_eq_false_iff_eq]; omega
            have hs : rstep r x = 2 * r % 4294967296 := by unfold rstep; rw [if_neg hq, Nat.xor_zero]
            have HS2 := Lib.hid hs
            clear hs
            go_wp2
            refine ⟨⟨j + 1, rstep r x, x / 2, by omega, rstep_lt r x, by omega, by go_num, by rw [HS2.out]; rfl, by go_num, rsteps_pos hj8 HS.out⟩, by simp [intOf]; omega⟩
        · obtain rfl : j = 8 := by omega
          go_wp2
          go_round
          case rel => exact ⟨k + 1, by omega, by go_num, by rw [HT.out, ← HS.out]; rfl⟩
          case measure => simp [intOf]; omega
    · have hk' : k = l.length := by omega
      subst hk'
      simp only [List.take_length] at hlt
      have e1 := u32_xor1 _ hlt
      have hlt2 : rrun CrcM.ones l ^^^ ones < 4294967296 := Nat.xor_lt_two_pow (n := 32) hlt (by decide)
      go_wp2_with (go_at_call 53; refine (mirror_any _ hlt2 _).mono ?_; rintro e w' ⟨rfl, rfl⟩)
      go_ret
      exact ⟨by rw [← ref_crc]; rfl, rfl⟩
theorem rev_take (s : ByteArray) (k j : Nat) (h : k < s.size) (hj : j < s.size) (e : (s.size : Int) - 1 - k = j) : s.data.toList.reverse.take (k + 1) = s.data.toList.reverse.take k ++ [s[j]] := by
  have hk : k < s.data.toList.reverse.length := by simpa using h
  obtain rfl : j = s.size - 1 - k := by omega
  rw [List.take_succ_eq_append_getElem hk, List.getElem_reverse]
  simp
  rfl
end Go.Proofs.Ytiheeajepnpejaa
