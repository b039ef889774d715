/- Proved: 'JournalCrashesSaid': the law tributarylaw18.JournalCrashes answers true for every input, and leaves its input as it was. No condition. -/
import Derived.Test.YtcgdkfhfchkdlaaRowD
import Derived.Test.YtcgdkfhfchkdlaaHead
import Derived.Test.YtcgdkfhfchkdlaaJouC
namespace Go.Proofs.Ytcgdkfhfchkdlaa.journalCrashes
open Go.ChangeShapes Go.WideShapes Go.ChangeAt Go.RowKit Go.Proofs.Ytcgdkfhfchkdlaa
set_option linter.unusedVariables false

set_option maxRecDepth 100000 in
theorem lifted (os : Os) (started : os.Started) (H : Type) (enc : TypeId × Value → H) :
    ReturnsInHanded {} Try.checked os 26 .any (Rows.journalCrashesSpec.pre6 enc Try.prog Try.f26 Rows.journalCrashesRow.domain false) (Rows.journalCrashesSpec.post enc Try.prog Try.f26 false true false false) := by
  refine returnsInHanded_of_change (C := Try.checked) own started (by kernel_rfl) Try.func26
    (ChangeSpec.witness6 (enc := enc) (C := Try.checked) false ⟨#[], #[.slice none 0 0, .slice none 0 0, .int .u8 0, .int .i64 0, .int .u8 0], []⟩ 8 (by kernel_rfl) (by kernel_rfl) (by kernel_rfl) (by kernel_rfl)) ?_
  intro W base args ds gs before hval0 hW hcnd _
  have hval : ∀ (j : Nat) t v, Try.f26.params[j]? = some t → args[j]? = some v → Value.okWide Try.prog W .any base t v := hval0
  have hW' := hW
  obtain ⟨p, q, hA0, hV, rfl, hfz, hnd⟩ := hW
  have hA : DataW.TrodAll enc Try.prog W 0 (fun _ => true) true Try.f26.params.toList args.toList ds p := hA0
  rw [Try.params26] at hA hval
  obtain ⟨v0, vs0, d0, ds0, p0, pp0, hargs, rfl, rfl, q0, r0⟩ := trodAll_cons hA
  obtain ⟨v1, vs1, d1, ds1, p1, pp1, rfl, rfl, rfl, q1, r1⟩ := trodAll_cons r0
  obtain ⟨v2, vs2, d2, ds2, p2, pp2, rfl, rfl, rfl, q2, r2⟩ := trodAll_cons r1
  obtain ⟨v3, vs3, d3, ds3, p3, pp3, rfl, rfl, rfl, q3, r3⟩ := trodAll_cons r2
  obtain ⟨v4, vs4, d4, ds4, p4, pp4, rfl, rfl, rfl, q4, r4⟩ := trodAll_cons r3
  obtain ⟨rfl, rfl, rfl⟩ := trodAll_nil r4
  obtain rfl : args = #[v0, v1, v2, v3, v4] := by cases args; simp_all
  obtain ⟨rfl, rfl⟩ := trodVars_none hV
  have k0 := q0
  have lt0 := places_lt k0
  obtain ⟨A0, n0, c0, l0, rfl, h0⟩ := row_bytes (hval 0 33 v0 rfl rfl) q0
  have k1 := q1
  have lt1 := places_lt k1
  obtain ⟨A1, n1, c1, L1, rfl, h1, e1⟩ := row_rows_cap (hval 1 56 v1 rfl rfl) q1
  have k2 := q2
  have lt2 := places_lt k2
  obtain ⟨b2, rfl⟩ := row_u8 (hval 2 5 v2 rfl rfl) q2
  have k3 := q3
  have lt3 := places_lt k3
  obtain ⟨x3, h3, g3, rfl⟩ := row_int (hval 3 3 v3 rfl rfl) q3
  have k4 := q4
  have lt4 := places_lt k4
  obtain ⟨b4, rfl⟩ := row_u8 (hval 4 5 v4 rfl rfl) q4
  clear hA0 hval0
  refine (journalCrashes_law A0 n0 c0 l0 A1 n1 c1 L1 b2 x3 b4 W h0 h1 e1 h3 g3).mono fun e W' ⟨he, bel⟩ => ?_
  subst he
  exact ⟨_, rfl, _, _, _, [], _, [], hW', trodAll_mk1 (shut_bool Try.underlying4 _), (trodAll_cons_mk (Below.trod laidOut (by kernel_rfl) (of_decide_eq_true (by kernel_rfl)) k0 bel lt0) (trodAll_cons_mk (Below.trod laidOut (by kernel_rfl) (of_decide_eq_true (by kernel_rfl)) k1 bel lt1) (trodAll_cons_mk (Below.trod laidOut (by kernel_rfl) (of_decide_eq_true (by kernel_rfl)) k2 bel lt2) (trodAll_cons_mk (Below.trod laidOut (by kernel_rfl) (of_decide_eq_true (by kernel_rfl)) k3 bel lt3) (trodAll_cons_mk (Below.trod laidOut (by kernel_rfl) (of_decide_eq_true (by kernel_rfl)) k4 bel lt4) trodAll_mk0))))), rfl, bel.frame _, fun h => by cases h⟩

theorem closed : joinedFacts Try.prog 26 Try.f26 Rows.journalCrashesSpec Rows.journalCrashesRow = true := by
  unfold joinedFacts
  rw [head_mayEnter, head_lifts, head_make]
  kernel_rfl
theorem over : Rows.journalCrashesRow.holds Try.pinned (OpenSpec.ofChange Rows.journalCrashesSpec) :=
  OpenClaim.holds_of_wide 26 Try.f26 rfl rfl rfl rfl rfl rfl rfl ⟨rfl, rfl, rfl, rfl, rfl⟩ rfl rfl rfl rfl rfl (by kernel_rfl) Try.func26 closed
    (of_decide_eq_true (by kernel_rfl)) (by unfold Func.isWrapper; first | (rw [if_pos (by decide +kernel)]; kernel_rfl) | (rw [if_neg (by decide +kernel)]; exact ⟨rfl, rfl⟩))
    (fun os started H enc _ => lifted os started H enc)

theorem proved : Rows.JournalCrashesSaid := over
#print axioms proved
end Go.Proofs.Ytcgdkfhfchkdlaa.journalCrashes
