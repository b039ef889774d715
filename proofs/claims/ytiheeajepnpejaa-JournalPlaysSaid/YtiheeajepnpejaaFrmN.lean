/- The laws FrameTurned, FrameCut and FrameNests of layer 4, walked: each answers true, whatever bytes. -/
import Derived.Test.YtiheeajepnpejaaFrmL
namespace Go.Proofs.Ytiheeajepnpejaa
open Go.RowKit FrameM
theorem Own.cap {w : World} {base n c : Nat} {A : Option Addr} {l : List UInt8} (h : Own w base (.slice A n c) l) : n ≤ c := by
  obtain ⟨A', c', hv, hc⟩ := h.slice
  injection hv with _ e e2
  subst e e2
  exact hc
theorem one_turned' {l F : List UInt8} (hF : frame l = F) {i : Nat} (hi : i < F.length) (by_ : UInt8) (hb : by_ ≠ 0) :
    ∃ m, one (F.set i (F[i] ^^^ by_)) = ([], m) ∧ ((m : Int) != 0) = true := by
  subst hF
  obtain ⟨h1, h2⟩ := one_turned hi by_ hb
  refine ⟨_, Prod.ext h2 rfl, ?_⟩
  rw [bne_iff_ne]
  show ((one _).2 : Int) ≠ 0
  omega
end Go.Proofs.Ytiheeajepnpejaa
