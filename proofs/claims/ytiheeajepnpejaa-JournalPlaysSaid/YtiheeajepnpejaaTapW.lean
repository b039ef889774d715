/- The walks of the package tape: each function does to the tape in memory what TapM says. -/
import Derived.Test.YtiheeajepnpejaaTap
namespace Go.Proofs.Ytiheeajepnpejaa
open Go.RowKit TapM
/-- A tape's five cells. -/
def tc (cap : Int) (sl : Value) (safe fuse : Int) (lost : Bool) : Array Value := #[.int .i64 cap, sl, .int .i64 safe, .int .i64 fuse, .bool lost]
/-- Blocks that the tape at p doesn't have its bytes in stay so. -/
def Keeps (w w' : World) (p : Nat) : Prop := ∀ g, g < w.heap.size → (∀ v, w.cell? ⟨p, 1, none⟩ = some v → v.ownBlock ≠ some g) → ∀ v, w'.cell? ⟨p, 1, none⟩ = some v → v.ownBlock ≠ some g
/-- What a call that turns one tape leaves. -/
structure Turned (w w' : World) (p : Nat) (s : TS) : Prop where
  tape : TapeAt w' p s
  only : w.grownBy w' (some p)
  keeps : Keeps w w' p
section
variable {w w' : World} {p : Nat} {s s' : TS} {A : Option Addr} {c : Nat} {cs : Array Value}
theorem Turned.stay (h : TapeAt w p s) : Turned w w p s := ⟨h, only_refl w _, fun _ _ h v hv => h v hv⟩
/-- The tape has the bytes that it had. -/
theorem Turned.same (hC : Cells w p 57 cs) (ho : Own w (p + 1) (.slice A s'.b.length c) s'.b) (h1 : w.cell? ⟨p, 1, none⟩ = some (.slice A s'.b.length c)) (hok : s'.Ok) (hg : w.grownBy w' (some p))
    (hC' : Cells w' p 57 (tcells s' A c)) : Turned w w' p s' := by
  refine ⟨⟨hok, A, c, hC', ho.grown hg hC tape_ne⟩, hg, fun g _ hold v hv => ?_⟩
  have e := (hC'.cell 1).symm.trans hv
  exact hold v (h1.trans e)
/-- The tape has new bytes. -/
theorem Turned.new (hp : p < w.heap.size) (ho : Own w' w.heap.size (.slice A s'.b.length c) s'.b) (hok : s'.Ok) (hg : w.grownBy w' (some p)) (hC' : Cells w' p 57 (tcells s' A c)) : Turned w w' p s' := by
  refine ⟨⟨hok, A, c, hC', ho.mono (by omega)⟩, hg, fun g hlt _ v hv => ?_⟩
  have e := (hC'.cell 1).symm.trans hv
  injection e with e
  subst e
  intro e
  have := (ho.at_block _ e).1
  omega
end
/-! ### What a nil tape answers -/
theorem gone_nil (w : World) : Calls Try.prog 25 #[.pointer none] w fun e w' => e = .returned (.int .i64 1) ∧ w = w' := by
  go_enter Try.func25, Try.ntmps25
  go_wp2
  go_ret
  exact ⟨rfl, rfl⟩
theorem gone_on {cap : Int} {sl : Value} {safe fuse : Int} {p : Nat} (w : World) (h : Cells w p 57 (tc cap sl safe fuse false)) :
    Calls Try.prog 25 #[.pointer (some ⟨p, 0, none⟩)] w fun e w' => e = .returned (.int .i64 0) ∧ w = w' := by
  have h4 : w.cell? ⟨p, 4, none⟩ = some (.bool false) := h.cell 4
  go_enter Try.func25, Try.ntmps25
  go_wp2
  go_ret
  exact ⟨rfl, rfl⟩
theorem gone_lost {cap : Int} {sl : Value} {safe fuse : Int} {p : Nat} (w : World) (h : Cells w p 57 (tc cap sl safe fuse true)) :
    Calls Try.prog 25 #[.pointer (some ⟨p, 0, none⟩)] w fun e w' => e = .returned (.int .i64 9) ∧ w = w' := by
  have h4 : w.cell? ⟨p, 4, none⟩ = some (.bool true) := h.cell 4
  go_enter Try.func25, Try.ntmps25
  go_wp2
  go_ret
  exact ⟨rfl, rfl⟩
theorem burns_yes {cap : Int} {sl : Value} {safe : Int} {p : Nat} (w : World) (h : Cells w p 57 (tc cap sl safe 0 false)) :
    Calls Try.prog 26 #[.pointer (some ⟨p, 0, none⟩)] w fun e w' => e = .returned (.bool true) ∧ w.grownBy w' (some p) ∧ Cells w' p 57 (tc cap sl safe 0 true) := by
  have h3 : w.cell? ⟨p, 3, none⟩ = some (.int .i64 0) := h.cell 3
  have h4 : w.cell? ⟨p, 4, none⟩ = some (.bool false) := h.cell 4
  have f4 := h.free 4
  go_enter Try.func26, Try.ntmps26
  go_wp2
  go_ret
  exact ⟨rfl, only_store (only_refl w _) _ _, h.store 4 (.bool true)⟩
theorem burns_no {cap : Int} {sl : Value} {safe fuse : Int} {p : Nat} (w : World) (h : Cells w p 57 (tc cap sl safe fuse false)) (h0 : fuse ≠ 0) (hlo : -1 ≤ fuse) (hhi : fuse ≤ 9223372036854775807) :
    Calls Try.prog 26 #[.pointer (some ⟨p, 0, none⟩)] w fun e w' => e = .returned (.bool false) ∧ w.grownBy w' (some p) ∧ Cells w' p 57 (tc cap sl safe (dec fuse) false) := by
  have h3 : w.cell? ⟨p, 3, none⟩ = some (.int .i64 fuse) := h.cell 3
  have h4 : w.cell? ⟨p, 4, none⟩ = some (.bool false) := h.cell 4
  have f3 := h.free 3
  have f4 := h.free 4
  have e0 : (fuse == 0) = false := beq_eq_false_iff_ne.2 h0
  by_cases hp : 0 < fuse
  · have hd : dec fuse = fuse - 1 := by unfold dec; rw [if_pos hp]
    rw [hd]
    clear hd
    go_enter Try.func26, Try.ntmps26
    go_wp2
    go_ret
    exact ⟨rfl, only_store (only_store (only_refl w _) _ _) _ _, (h.store 4 (.bool false)).store 3 (.int .i64 (fuse - 1))⟩
  · have hd : dec fuse = fuse := by unfold dec; rw [if_neg hp]
    rw [hd]
    clear hd
    go_enter Try.func26, Try.ntmps26
    go_wp2
    go_ret
    exact ⟨rfl, only_store (only_refl w _) _ _, h.store 4 (.bool false)⟩
end Go.Proofs.Ytiheeajepnpejaa
