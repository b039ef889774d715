/- Three closed facts on the translation's head, which the kernel reckons cheaply once the head's text stands as a list of signs. -/
import Derived.Test.YtcgdkfhfchkdlaaRows
import Derived.JoinedOf
import Derived.KernelRfl
namespace Go.Proofs.Ytcgdkfhfchkdlaa
set_option maxRecDepth 100000

/-- The head's first three words, and what stands behind them, as numbers. -/
def headA : List Char := List.map Char.ofNat [104, 97, 114, 110, 101, 115, 115]
def headB : List Char := List.map Char.ofNat [
    57, 53, 51, 56, 102, 102, 98, 98, 52, 48, 49, 50, 48, 101, 99, 56, 100, 98, 54, 97, 52, 98, 101, 50, 56, 57, 53, 53, 101, 55, 57, 51, 48, 50, 49, 54, 51, 48, 51, 54,
    99, 49, 56, 52, 56, 56, 49, 53, 51, 56, 54, 54, 102, 102, 102, 54, 98, 51, 100, 51, 50, 56, 55, 57]
def headC : List Char := List.map Char.ofNat [99, 117, 116]
def headR : List Char := List.map Char.ofNat [
    97, 116, 32, 116, 114, 105, 98, 117, 116, 97, 114, 121, 47, 116, 114, 105, 98, 117, 116, 97, 114, 121, 108, 97, 119, 49, 57, 46, 82, 101, 115, 101, 114, 118, 101, 78, 101, 101, 100, 115,
    32, 116, 114, 105, 98, 117, 116, 97, 114, 121, 47, 116, 114, 105, 98, 117, 116, 97, 114, 121, 108, 97, 119, 48, 51, 46, 67, 114, 99, 73, 115, 32, 116, 114, 105, 98, 117, 116, 97, 114,
    121, 47, 116, 114, 105, 98, 117, 116, 97, 114, 121, 108, 97, 119, 48, 51, 46, 67, 114, 99, 79, 116, 104, 101, 114, 32, 116, 114, 105, 98, 117, 116, 97, 114, 121, 47, 116, 114, 105, 98,
    117, 116, 97, 114, 121, 108, 97, 119, 48, 51, 46, 67, 114, 99, 66, 117, 114, 115, 116, 32, 116, 114, 105, 98, 117, 116, 97, 114, 121, 47, 116, 114, 105, 98, 117, 116, 97, 114, 121, 108,
    97, 119, 48, 51, 46, 67, 114, 99, 65, 102, 102, 105, 110, 101, 32, 116, 114, 105, 98, 117, 116, 97, 114, 121, 47, 116, 114, 105, 98, 117, 116, 97, 114, 121, 108, 97, 119, 49, 57, 46,
    82, 101, 115, 101, 114, 118, 101, 84, 111, 32, 116, 114, 105, 98, 117, 116, 97, 114, 121, 47, 116, 114, 105, 98, 117, 116, 97, 114, 121, 108, 97, 119, 48, 51, 46, 67, 114, 99, 72, 97,
    115, 104, 32, 116, 114, 105, 98, 117, 116, 97, 114, 121, 47, 116, 114, 105, 98, 117, 116, 97, 114, 121, 108, 97, 119, 48, 52, 46, 70, 114, 97, 109, 101, 73, 115, 32, 116, 114, 105, 98,
    117, 116, 97, 114, 121, 47, 116, 114, 105, 98, 117, 116, 97, 114, 121, 108, 97, 119, 49, 57, 46, 82, 101, 115, 101, 114, 118, 101, 71, 105, 118, 101, 115, 32, 116, 114, 105, 98, 117, 116,
    97, 114, 121, 47, 116, 114, 105, 98, 117, 116, 97, 114, 121, 108, 97, 119, 49, 57, 46, 82, 101, 115, 101, 114, 118, 101, 69, 110, 111, 117, 103, 104, 32, 116, 114, 105, 98, 117, 116, 97,
    114, 121, 47, 116, 114, 105, 98, 117, 116, 97, 114, 121, 108, 97, 119, 49, 57, 46, 82, 101, 115, 101, 114, 118, 101, 79, 110, 99, 101, 32, 116, 114, 105, 98, 117, 116, 97, 114, 121, 47,
    116, 114, 105, 98, 117, 116, 97, 114, 121, 108, 97, 119, 48, 52, 46, 70, 114, 97, 109, 101, 83, 99, 97, 110, 115, 32, 116, 114, 105, 98, 117, 116, 97, 114, 121, 47, 116, 114, 105, 98,
    117, 116, 97, 114, 121, 108, 97, 119, 48, 52, 46, 70, 114, 97, 109, 101, 66, 97, 99, 107, 32, 116, 114, 105, 98, 117, 116, 97, 114, 121, 47, 116, 114, 105, 98, 117, 116, 97, 114, 121,
    108, 97, 119, 48, 52, 46, 70, 114, 97, 109, 101, 79, 110, 101, 32, 116, 114, 105, 98, 117, 116, 97, 114, 121, 47, 116, 114, 105, 98, 117, 116, 97, 114, 121, 108, 97, 119, 48, 52, 46,
    70, 114, 97, 109, 101, 84, 117, 114, 110, 101, 100, 32, 116, 114, 105, 98, 117, 116, 97, 114, 121, 47, 116, 114, 105, 98, 117, 116, 97, 114, 121, 108, 97, 119, 48, 52, 46, 70, 114, 97,
    109, 101, 67, 117, 116, 32, 116, 114, 105, 98, 117, 116, 97, 114, 121, 47, 116, 114, 105, 98, 117, 116, 97, 114, 121, 108, 97, 119, 48, 52, 46, 70, 114, 97, 109, 101, 78, 101, 115, 116,
    115, 32, 116, 114, 105, 98, 117, 116, 97, 114, 121, 47, 116, 114, 105, 98, 117, 116, 97, 114, 121, 108, 97, 119, 49, 55, 46, 84, 97, 112, 101, 70, 117, 115, 101, 115, 32, 116, 114, 105,
    98, 117, 116, 97, 114, 121, 47, 116, 114, 105, 98, 117, 116, 97, 114, 121, 108, 97, 119, 49, 55, 46, 84, 97, 112, 101, 80, 108, 97, 121, 115, 32, 116, 114, 105, 98, 117, 116, 97, 114,
    121, 47, 116, 114, 105, 98, 117, 116, 97, 114, 121, 108, 97, 119, 49, 55, 46, 84, 97, 112, 101, 75, 101, 101, 112, 115, 32, 116, 114, 105, 98, 117, 116, 97, 114, 121, 47, 116, 114, 105,
    98, 117, 116, 97, 114, 121, 108, 97, 119, 49, 55, 46, 84, 97, 112, 101, 79, 119, 110, 32, 116, 114, 105, 98, 117, 116, 97, 114, 121, 47, 116, 114, 105, 98, 117, 116, 97, 114, 121, 108,
    97, 119, 49, 55, 46, 84, 97, 112, 101, 78, 105, 108, 32, 116, 114, 105, 98, 117, 116, 97, 114, 121, 47, 116, 114, 105, 98, 117, 116, 97, 114, 121, 108, 97, 119, 49, 56, 46, 74, 111,
    117, 114, 110, 97, 108, 82, 97, 119, 32, 116, 114, 105, 98, 117, 116, 97, 114, 121, 47, 116, 114, 105, 98, 117, 116, 97, 114, 121, 108, 97, 119, 49, 56, 46, 74, 111, 117, 114, 110, 97,
    108, 67, 114, 97, 115, 104, 101, 115, 32, 116, 114, 105, 98, 117, 116, 97, 114, 121, 47, 116, 114, 105, 98, 117, 116, 97, 114, 121, 108, 97, 119, 49, 56, 46, 74, 111, 117, 114, 110, 97,
    108, 82, 101, 110, 101, 119, 115, 32, 116, 114, 105, 98, 117, 116, 97, 114, 121, 47, 116, 114, 105, 98, 117, 116, 97, 114, 121, 108, 97, 119, 49, 56, 46, 74, 111, 117, 114, 110, 97, 108,
    80, 108, 97, 121, 115]
def blank : Char := Char.ofNat 32
theorem words_cons (c : Char) (hc : c ≠ blank) (r w : List Char) (ws : List (List Char)) (h : wordsSigns r = w :: ws) : wordsSigns (c :: r) = (c :: w) :: ws := by
  rw [wordsSigns.eq_def]
  split
  · rename_i e; cases e
  · rename_i e; injection e with e _; exact absurd e hc
  · rename_i c' r' _ e
    injection e with e1 e2
    subst e1 e2
    rw [h]
theorem words_blank (r : List Char) : wordsSigns (blank :: r) = [] :: wordsSigns r := rfl
theorem words_word (w r : List Char) (hw : w.all (· != blank) = true) : wordsSigns (w ++ blank :: r) = w :: wordsSigns r := by
  induction w with
  | nil => exact words_blank r
  | cons c w ih =>
    simp only [List.all_cons, Bool.and_eq_true, bne_iff_ne] at hw
    exact words_cons c hw.1 _ _ _ (ih hw.2)
theorem behind_main (R : List (List Char)) : behindMainWord (headA :: headB :: R) = R := by
  have h : ((headA == "harness".toList || headA == "ownmain".toList) && isSumSigns headB) = true := by kernel_rfl
  unfold behindMainWord
  simp only []
  rw [if_pos h]
theorem head_eq : Try.prog.initOrder = String.ofList (headA ++ blank :: (headB ++ blank :: (headC ++ blank :: headR))) := by kernel_rfl
theorem head_behind : behindMainWord (wordsSigns Try.prog.initOrder.toList) = headC :: wordsSigns headR := by
  rw [head_eq, String.toList_ofList, words_word _ _ (by kernel_rfl), words_word _ _ (by kernel_rfl), words_word _ _ (by kernel_rfl), behind_main]
section
variable {P : Program} {R : List (List Char)} (h : behindMainWord (wordsSigns P.initOrder.toList) = headC :: R)
include h
theorem make_cut : P.make = some .cut := by
  unfold Program.make
  rw [h]
  kernel_rfl
theorem lifts_cut : P.liftsFinal = false := by
  unfold Program.liftsFinal Program.headLifts
  rw [h]
  kernel_rfl
theorem mayEnter_cut (hl : P.laysLater = false) (hr : P.bearsReflect = false) (hd : P.doorFits [] = true) : P.mayEnter = true := by
  unfold Program.mayEnter
  rw [h]
  have e : stripLifts liftWords (headC :: R) = ([], headC :: R) := by kernel_rfl
  simp only [e]
  rw [hl, hr, hd]
  refine Eq.trans (b := true) ?_ rfl
  kernel_rfl
end
theorem head_mayEnter : Try.prog.mayEnter = true := mayEnter_cut head_behind (by as_aux_lemma => kernel_rfl) (by as_aux_lemma => kernel_rfl) (by as_aux_lemma => kernel_rfl)
theorem head_lifts : Try.prog.liftsFinal = false := lifts_cut head_behind
theorem head_make : Try.prog.make = some .cut := make_cut head_behind
end Go.Proofs.Ytcgdkfhfchkdlaa
