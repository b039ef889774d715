/- Proved: 'JournalRenewsSaid': the law tributarylaw18.JournalRenews answers true for every input, and leaves its input as it was. No condition. -/
import Derived.Test.YtcgdkfhfchkdlaaRowD
import Derived.Test.YtcgdkfhfchkdlaaHead
import Derived.Test.YtcgdkfhfchkdlaaJouR
namespace Go.Proofs.Ytcgdkfhfchkdlaa.journalRenews
open Go.ChangeShapes Go.WideShapes Go.ChangeAt Go.RowKit Go.Proofs.Ytcgdkfhfchkdlaa
set_option linter.unusedVariables false

set_option maxRecDepth 100000 in
theorem lifted (os : Os) (started : os.Started) (H : Type) (enc : TypeId × Value → H) :
    ReturnsInHanded {} Try.checked os 27 .any (Rows.journalRenewsSpec.pre6 enc Try.prog Try.f27 Rows.journalRenewsRow.domain false) (Rows.journalRenewsSpec.post enc Try.prog Try.f27 false true false false) := by
  refine returnsInHanded_of_change (C := Try.checked) own started (by kernel_rfl) Try.func27
    (ChangeSpec.witness6 (enc := enc) (C := Try.checked) false ⟨#[], #[.slice none 0 0, .slice none 0 0, .slice none 0 0, .int .u8 0, .int .i64 0, .int .u8 0], []⟩ 8 (by kernel_rfl) (by kernel_rfl) (by kernel_rfl) (by kernel_rfl)) ?_
  intro W base args ds gs before hval0 hW hcnd _
  have hval : ∀ (j : Nat) t v, Try.f27.params[j]? = some t → args[j]? = some v → Value.okWide Try.prog W .any base t v := hval0
  have hW' := hW
  obtain ⟨p, q, hA0, hV, rfl, hfz, hnd⟩ := hW
  have hA : DataW.TrodAll enc Try.prog W 0 (fun _ => true) true Try.f27.params.toList args.toList ds p := hA0
  rw [Try.params27] at hA hval
  obtain ⟨v0, vs0, d0, ds0, p0, pp0, hargs, rfl, rfl, q0, r0⟩ := trodAll_cons hA
  obtain ⟨v1, vs1, d1, ds1, p1, pp1, rfl, rfl, rfl, q1, r1⟩ := trodAll_cons r0
  obtain ⟨v2, vs2, d2, ds2, p2, pp2, rfl, rfl, rfl, q2, r2⟩ := trodAll_cons r1
  obtain ⟨v3, vs3, d3, ds3, p3, pp3, rfl, rfl, rfl, q3, r3⟩ := trodAll_cons r2
  obtain ⟨v4, vs4, d4, ds4, p4, pp4, rfl, rfl, rfl, q4, r4⟩ := trodAll_cons r3
  obtain ⟨v5, vs5, d5, ds5, p5, pp5, rfl, rfl, rfl, q5, r5⟩ := trodAll_cons r4
  obtain ⟨rfl, rfl, rfl⟩ := trodAll_nil r5
  obtain rfl : args = #[v0, v1, v2, v3, v4, v5] := by cases args; simp_all
  obtain ⟨rfl, rfl⟩ := trodVars_none hV
  have k0 := q0
  have lt0 := places_lt k0
  obtain ⟨A0, n0, c0, l0, rfl, h0⟩ := row_bytes (hval 0 33 v0 rfl rfl) q0
  have k1 := q1
  have lt1 := places_lt k1
  obtain ⟨A1, n1, c1, l1, rfl, h1⟩ := row_bytes (hval 1 33 v1 rfl rfl) q1
  have k2 := q2
  have lt2 := places_lt k2
  obtain ⟨A2, n2, c2, L2, rfl, h2, e2⟩ := row_rows_cap (hval 2 56 v2 rfl rfl) q2
  have k3 := q3
  have lt3 := places_lt k3
  obtain ⟨b3, rfl⟩ := row_u8 (hval 3 5 v3 rfl rfl) q3
  have k4 := q4
  have lt4 := places_lt k4
  obtain ⟨x4, h4, g4, rfl⟩ := row_int (hval 4 3 v4 rfl rfl) q4
  have k5 := q5
  have lt5 := places_lt k5
  obtain ⟨b5, rfl⟩ := row_u8 (hval 5 5 v5 rfl rfl) q5
  clear hA0 hval0
  refine (journalRenews_law A0 n0 c0 l0 A1 n1 c1 l1 A2 n2 c2 L2 b3 x4 b5 W h0 h1 h2 e2 h4 g4).mono fun e W' ⟨he, bel⟩ => ?_
  subst he
  exact ⟨_, rfl, _, _, _, [], _, [], hW', trodAll_mk1 (shut_bool Try.underlying4 _), (trodAll_cons_mk (Below.trod laidOut (by kernel_rfl) (of_decide_eq_true (by kernel_rfl)) k0 bel lt0) (trodAll_cons_mk (Below.trod laidOut (by kernel_rfl) (of_decide_eq_true (by kernel_rfl)) k1 bel lt1) (trodAll_cons_mk (Below.trod laidOut (by kernel_rfl) (of_decide_eq_true (by kernel_rfl)) k2 bel lt2) (trodAll_cons_mk (Below.trod laidOut (by kernel_rfl) (of_decide_eq_true (by kernel_rfl)) k3 bel lt3) (trodAll_cons_mk (Below.trod laidOut (by kernel_rfl) (of_decide_eq_true (by kernel_rfl)) k4 bel lt4) (trodAll_cons_mk (Below.trod laidOut (by kernel_rfl) (of_decide_eq_true (by kernel_rfl)) k5 bel lt5) trodAll_mk0)))))), rfl, bel.frame _, fun h => by cases h⟩

theorem closed : joinedFacts Try.prog 27 Try.f27 Rows.journalRenewsSpec Rows.journalRenewsRow = true := by
  unfold joinedFacts
  rw [head_mayEnter, head_lifts, head_make]
  kernel_rfl
theorem over : Rows.journalRenewsRow.holds Try.pinned (OpenSpec.ofChange Rows.journalRenewsSpec) :=
  OpenClaim.holds_of_wide 27 Try.f27 rfl rfl rfl rfl rfl rfl rfl ⟨rfl, rfl, rfl, rfl, rfl⟩ rfl rfl rfl rfl rfl (by kernel_rfl) Try.func27 closed
    (of_decide_eq_true (by kernel_rfl)) (by unfold Func.isWrapper; first | (rw [if_pos (by decide +kernel)]; kernel_rfl) | (rw [if_neg (by decide +kernel)]; exact ⟨rfl, rfl⟩))
    (fun os started H enc _ => lifted os started H enc)

theorem proved : Rows.JournalRenewsSaid := over
#print axioms proved
end Go.Proofs.Ytcgdkfhfchkdlaa.journalRenews
