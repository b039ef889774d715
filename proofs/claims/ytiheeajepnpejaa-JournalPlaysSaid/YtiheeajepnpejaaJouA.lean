/- alike of the laws of layer 18, walked: are two lists of records alike? -/
import Derived.Test.YtiheeajepnpejaaJouW
namespace Go.Proofs.Ytiheeajepnpejaa
open Go.RowKit TapM FrameM JouM
def alikeB (L M : List (List UInt8)) : Bool := decide (L = M)
theorem alikeB_yes {L M : List (List UInt8)} (h : L = M) : alikeB L M = true := by unfold alikeB; simp [h]
theorem alikeB_no {L M : List (List UInt8)} (h : ¬ L = M) : alikeB L M = false := by unfold alikeB; simp [h]
set_option maxHeartbeats 1600000 in
theorem alike_any (A B : Option Addr) (n m c d : Nat) (L M : List (List UInt8)) (w : World) (hL : Rws w A n L) (hM : Rws w B m M) (hn : n ≤ 9223372036854775806) :
    Calls Try.prog 31 #[.slice A n c, .slice B m d] w fun e w' => e = .returned (.bool (alikeB L M)) ∧ ∃ k, w' = w.drewN k := by
  have hLn := hL.1
  have hMn := hM.1
  by_cases hnm : n = m
  · subst hnm
    have b0 : ((n : Int) != (n : Int)) = false := by simp
    go_enter Try.func31, Try.ntmps31
    go_wp2
    go_loopw [5, 13] (fun v5 v13 wr => ∃ k : Nat, k ≤ n ∧ v13 = .int .i64 k ∧ Hid (L.take k = M.take k) ∧ ∃ j, wr = w.drewN j) (fun _ v13 _ => n - (intOf v13).toNat)
    case atStart => exact ⟨0, by omega, rfl, rfl, 0, rfl⟩
    case round =>
      obtain ⟨k, hk, rfl, ht, j, rfl⟩ := hrel
      by_cases hkn : k < n
      · obtain ⟨b, o, A', c', x, rfl, hx, h1, h2, h3⟩ := hL.at_ hkn
        obtain ⟨b2, o2, A2, c2, y, rfl, hy, g1, g2, g3⟩ := hM.at_ hkn
        have i0 : (k : Int) < (n : Int) := by omega
        have s1 := run_str c' h2
        have s2 := run_str c2 g2
        have htx : L.take (k + 1) = L.take k ++ [x] := by
          rw [List.take_add_one, hx]; rfl
        have hty : M.take (k + 1) = M.take k ++ [y] := by
          rw [List.take_add_one, hy]; rfl
        by_cases hxy : x = y
        · subst hxy
          have HT : Hid (L.take (k + 1) = M.take (k + 1)) := by rw [htx, hty, ht.out]; rfl
          clear htx hty hx hy
          generalize hS : (⟨x.toArray⟩ : ByteArray) = S at s1 s2
          have b1 : (S.toList != S.toList) = false := by simp
          clear hS h2 h3 g2 g3 ht
          generalize x.length = q at *
          go_wp2
          go_quiet (fail)
          go_wp2
          exact ⟨⟨k + 1, by omega, by go_num, HT, j + nq, rfl⟩, by simp [intOf]; omega⟩
        · have hne : ¬ L = M := by
            intro e
            rw [e, hy] at hx
            injection hx with hx
            exact hxy hx.symm
          have b1 : ((⟨x.toArray⟩ : ByteArray).toList != (⟨y.toArray⟩ : ByteArray).toList) = true := by
            have := str_eq x y
            rw [decide_eq_false hxy] at this
            simp only [bne, this]
            rfl
          have HN := alikeB_no hne
          have b3 : ((⟨x.toArray⟩ : ByteArray).toList == (⟨y.toArray⟩ : ByteArray).toList) = false := by rw [str_eq]; exact decide_eq_false hxy
          generalize hS : (⟨x.toArray⟩ : ByteArray) = S at s1 b1 b3
          generalize hS2 : (⟨y.toArray⟩ : ByteArray) = S2 at s2 b1 b3
          clear hS hS2 htx hty hx hy h2 h3 g2 g3 ht hne hxy
          generalize x.length = q at *
          generalize y.length = q2 at *
          go_wp2
          go_quiet (fail)
          go_wp2
          go_ret
          exact ⟨by rw [HN]; rfl, j + nq, World.drewN_drewN _ _ _⟩
      · obtain rfl : k = n := by omega
        have htt := ht.out
        rw [List.take_of_length_le (by omega), List.take_of_length_le (by omega)] at htt
        have HN := alikeB_yes htt
        clear htt ht
        go_wp2
        go_ret
        exact ⟨by rw [HN]; rfl, j, rfl⟩
  · have hne : ¬ L = M := fun e => hnm (by rw [← hLn, ← hMn, e])
    rw [alikeB_no hne]
    have b0 : ((n : Int) != (m : Int)) = true := by rw [bne_iff_ne]; omega
    clear hne
    go_enter Try.func31, Try.ntmps31
    go_wp2
    go_ret
    exact ⟨rfl, 0, rfl⟩
end Go.Proofs.Ytiheeajepnpejaa
