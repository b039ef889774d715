/- The helpers of the laws of layer 17: few, act, model, is and awake, walked. -/
import Derived.Test.YtiheeajepnpejaaTapI
import Derived.Test.YtiheeajepnpejaaActsW
namespace Go.Proofs.Ytiheeajepnpejaa
open Go.RowKit TapM
def FewP (L : List TAct) (k : Nat) : Prop := k ≤ 61 ∧ ∀ j (h : j < L.length), j < k → L[j].l.length ≤ 300
/-- Are there few acts, of few bytes? -/
noncomputable def fewB (L : List TAct) : Bool := @decide (FewP L L.length) (Classical.propDecidable _)
theorem fewB_yes {L : List TAct} (h : FewP L L.length) : fewB L = true := by unfold fewB; simp [h]
theorem fewB_no {L : List TAct} (h : ¬ FewP L L.length) : fewB L = false := by unfold fewB; simp [h]
/-! ### act -/
theorem Turned.after {w w1 w' : World} {p : Nat} {s s' : TS} (h : TapeAt w p s) (hb : Below w.heap.size w w1) (ht : Turned w1 w' p s') : Turned w w' p s' := by
  refine ⟨ht.tape, only_trans (only_of hb _) ht.only, fun g hlt hold => ht.keeps g (Nat.lt_of_lt_of_le hlt hb.size) fun v hv => hold v ?_⟩
  rw [← hv]
  exact (hb.cell (p := ⟨p, 1, none⟩) h.lt).symm
theorem TapeAt.alloc {w : World} {p : Nat} {s : TS} (h : TapeAt w p s) (o : Obj) : TapeAt (w.alloc o) p s := h.below ((Below.refl _ _).alloc (Nat.le_refl _) o)
theorem kind_yes {k : UInt8} {m : UInt8} (h : k = m) : ((k.toNat : Int) == (m.toNat : Int)) = true := by rw [h]; simp
theorem kind_no {k : UInt8} {m : UInt8} (h : ¬ k = m) : ((k.toNat : Int) == (m.toNat : Int)) = false := by
  rw [beq_eq_false_iff_ne]
  intro e
  exact h (UInt8.toNat_inj.1 (by omega))
theorem act_0 {s : TS} {a : TAct} (h : a.kind = 0) : s.act a = s.append a.l := by unfold TS.act; rw [if_pos h]
theorem act_1 {s : TS} {a : TAct} (h : a.kind = 1) : s.act a = s.sync := by unfold TS.act; rw [if_neg (by rw [h]; decide), if_pos h]
theorem act_2 {s : TS} {a : TAct} (h : a.kind = 2) : s.act a = s.replace a.l := by unfold TS.act; rw [if_neg (by rw [h]; decide), if_neg (by rw [h]; decide), if_pos h]
theorem act_3 {s : TS} {a : TAct} (h : a.kind = 3) : s.act a = s.arm a.n := by unfold TS.act; rw [if_neg (by rw [h]; decide), if_neg (by rw [h]; decide), if_neg (by rw [h]; decide), if_pos h]
theorem act_4 {s : TS} {a : TAct} (h0 : ¬ a.kind = 0) (h1 : ¬ a.kind = 1) (h2 : ¬ a.kind = 2) (h3 : ¬ a.kind = 3) : s.act a = (s.restart a.n a.y, 0) := by unfold TS.act; rw [if_neg h0, if_neg h1, if_neg h2, if_neg h3]
end Go.Proofs.Ytiheeajepnpejaa
