/- The laws FrameIs, FrameOne, FrameTurned, FrameCut and FrameNests of layer 4, walked: each answers true, whatever bytes. -/
import Derived.Test.YtiheeajepnpejaaFrmT
namespace Go.Proofs.Ytiheeajepnpejaa
open Go.RowKit FrameM
theorem awake_get (L : List UInt8) (h : L = frame [97, 98]) : L.getD 4 0 = 97 := by
  rw [h]; rfl
theorem awake_cell {w : World} {base c : Nat} {A : Option Addr} (hown : Own w base (.slice A (2 + 8) c) (frame [97, 98])) : ∃ g, A = some ⟨g, 0, none⟩ ∧ w.cell? ⟨g, 4, none⟩ = some (.int .u8 97) := by
  obtain ⟨L, hL⟩ : ∃ L, frame [97, 98] = L := ⟨_, rfl⟩
  have hLl : L.length = 10 := by rw [← hL, frame_length]; rfl
  have hg4 := awake_get L hL.symm
  rw [hL] at hown
  obtain ⟨g, rfl, _, _⟩ := hown.addr (by omega)
  have hc4 := hown.cell (j := 4) (by omega)
  have e4 : L[4]'(by omega) = 97 := by rw [← hg4]; simp [List.getD, List.getElem?_eq_getElem (show 4 < L.length by omega)]
  rw [e4] at hc4
  exact ⟨g, rfl, hc4⟩
theorem conv (A : Option Addr) (n c : Nat) (l : List UInt8) (w : World) (h : Bs w A n l) : (convert 22 9 (.slice A n c)).run Try.prog w = .ok (.string ⟨l.toArray⟩) w :=
  run_string_of Try.underlying22 Try.underlying5 Try.underlying9 c h
end Go.Proofs.Ytiheeajepnpejaa
