/- Three closed facts on the translation's head, which the kernel reckons cheaply once the head's text stands as a list of signs. -/
import Derived.Test.YtiheeajepnpejaaRows
import Derived.JoinedOf
import Derived.KernelRfl
namespace Go.Proofs.Ytiheeajepnpejaa
set_option maxRecDepth 100000

/-- The head's first three words, and what stands behind them, as numbers. -/
def headA : List Char := List.map Char.ofNat [104, 97, 114, 110, 101, 115, 115]
def headB : List Char := List.map Char.ofNat [
    55, 55, 49, 51, 102, 98, 101, 101, 54, 57, 51, 99, 98, 49, 98, 52, 102, 102, 56, 100, 55, 51, 98, 52, 49, 100, 101, 57, 53, 54, 51, 56, 51, 101, 56, 53, 50, 49, 98, 53,
    55, 51, 51, 102, 101, 98, 102, 57, 50, 50, 55, 52, 54, 98, 97, 102, 99, 100, 48, 51, 102, 97, 50, 102]
def headC : List Char := List.map Char.ofNat [99, 117, 116]
def headR : List Char := List.map Char.ofNat [
    97, 116, 32, 116, 114, 105, 98, 117, 116, 97, 114, 121, 47, 116, 114, 105, 98, 117, 116, 97, 114, 121, 108, 97, 119, 49, 56, 46, 74, 111, 117, 114, 110, 97, 108, 82, 97, 119, 32, 116,
    114, 105, 98, 117, 116, 97, 114, 121, 47, 116, 114, 105, 98, 117, 116, 97, 114, 121, 108, 97, 119, 49, 56, 46, 74, 111, 117, 114, 110, 97, 108, 80, 108, 97, 121, 115]
def blank : Char := Char.ofNat 32
theorem words_cons (c : Char) (hc : c ≠ blank) (r w : List Char) (ws : List (List Char)) (h : wordsSigns r = w :: ws) : wordsSigns (c :: r) = (c :: w) :: ws := by
  rw [wordsSigns.eq_def]
  split
  · rename_i e; cases e
  · rename_i e; injection e with e _; exact absurd e hc
  · rename_i c' r' _ e
    injection e with e1 e2
    subst e1 e2
    rw [h]
theorem words_blank (r : List Char) : wordsSigns (blank :: r) = [] :: wordsSigns r := rfl
theorem words_word (w r : List Char) (hw : w.all (· != blank) = true) : wordsSigns (w ++ blank :: r) = w :: wordsSigns r := by
  induction w with
  | nil => exact words_blank r
  | cons c w ih =>
    simp only [List.all_cons, Bool.and_eq_true, bne_iff_ne] at hw
    exact words_cons c hw.1 _ _ _ (ih hw.2)
theorem behind_main (R : List (List Char)) : behindMainWord (headA :: headB :: R) = R := by
  have h : ((headA == "harness".toList || headA == "ownmain".toList) && isSumSigns headB) = true := by kernel_rfl
  unfold behindMainWord
  simp only []
  rw [if_pos h]
theorem head_eq : Try.prog.initOrder = String.ofList (headA ++ blank :: (headB ++ blank :: (headC ++ blank :: headR))) := by kernel_rfl
theorem head_behind : behindMainWord (wordsSigns Try.prog.initOrder.toList) = headC :: wordsSigns headR := by
  rw [head_eq, String.toList_ofList, words_word _ _ (by kernel_rfl), words_word _ _ (by kernel_rfl), words_word _ _ (by kernel_rfl), behind_main]
section
variable {P : Program} {R : List (List Char)} (h : behindMainWord (wordsSigns P.initOrder.toList) = headC :: R)
include h
theorem make_cut : P.make = some .cut := by
  unfold Program.make
  rw [h]
  kernel_rfl
theorem lifts_cut : P.liftsFinal = false := by
  unfold Program.liftsFinal Program.headLifts
  rw [h]
  kernel_rfl
theorem mayEnter_cut (hl : P.laysLater = false) (hr : P.bearsReflect = false) (hd : P.doorFits [] = true) : P.mayEnter = true := by
  unfold Program.mayEnter
  rw [h]
  have e : stripLifts liftWords (headC :: R) = ([], headC :: R) := by kernel_rfl
  simp only [e]
  rw [hl, hr, hd]
  refine Eq.trans (b := true) ?_ rfl
  kernel_rfl
end
theorem head_mayEnter : Try.prog.mayEnter = true := mayEnter_cut head_behind (by as_aux_lemma => kernel_rfl) (by as_aux_lemma => kernel_rfl) (by as_aux_lemma => kernel_rfl)
theorem head_lifts : Try.prog.liftsFinal = false := lifts_cut head_behind
theorem head_make : Try.prog.make = some .cut := make_cut head_behind
end Go.Proofs.Ytiheeajepnpejaa
