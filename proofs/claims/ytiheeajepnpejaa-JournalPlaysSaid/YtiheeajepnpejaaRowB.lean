/- From an argument's reading as data to the words that the walks take: integers, bytes, four bytes. -/
import Derived.Test.YtiheeajepnpejaaBase
import Derived.Test.YtiheeajepnpejaaRows
import Derived.ProofKit
import Derived.OpenShut
import Derived.ShutString
import Derived.ChangeOld
import Derived.Below
namespace Go.Proofs.Ytiheeajepnpejaa
open Go.ChangeShapes Go.WideShapes Go.ChangeAt Go.RowKit
open Go.ChangeMaps (open_string shut_string)
set_option maxRecDepth 100000

theorem own : ownKnob Try.prog.godebug = none := by kernel_rfl
theorem laidOut : laidOutB Try.prog = true := by kernel_rfl

section
variable {H : Type} {enc : TypeId × Value → H} {W : World} {base : Nat} {v : Value} {d : DataW H} {p : List MemPlace} {sp : Nat → Bool}
theorem u8_of_wf {x : Int} (h : (Lit.int .u8 x).wf = true) : ∃ b : UInt8, x = (b.toNat : Int) := by
  simp [Lit.wf, IntKind.min, IntKind.max, IntKind.signed, IntKind.bits] at h
  refine ⟨UInt8.ofNat x.toNat, ?_⟩
  simp
  omega
theorem u16_of_wf {x : Int} (h : (Lit.int .u16 x).wf = true) : ∃ n : Nat, n < 65536 ∧ x = (n : Int) := by
  simp [Lit.wf, IntKind.min, IntKind.max, IntKind.signed, IntKind.bits] at h
  exact ⟨x.toNat, by omega, by omega⟩
theorem u32_of_wf {x : Int} (h : (Lit.int .u32 x).wf = true) : ∃ n : Nat, n < 4294967296 ∧ x = (n : Int) := by
  simp [Lit.wf, IntKind.min, IntKind.max, IntKind.signed, IntKind.bits] at h
  exact ⟨x.toNat, by omega, by omega⟩
theorem i64_of_wf {x : Int} (h : (Lit.int .i64 x).wf = true) : -9223372036854775808 ≤ x ∧ x ≤ 9223372036854775807 := by
  simp [Lit.wf, IntKind.min, IntKind.max, IntKind.signed, IntKind.bits] at h
  exact ⟨by omega, by omega⟩
theorem row_u8 (hv : Value.okWide Try.prog W .any base 5 v) (h : DataW.Trod enc Try.prog W 0 sp true 5 v d p) : ∃ b : UInt8, v = .int .u8 (b.toNat : Int) := by
  obtain ⟨x, rfl, _, _, w⟩ := open_int Try.underlying5 hv h
  obtain ⟨b, rfl⟩ := u8_of_wf w
  exact ⟨b, rfl⟩
theorem row_u16 (hv : Value.okWide Try.prog W .any base 41 v) (h : DataW.Trod enc Try.prog W 0 sp true 41 v d p) : ∃ n : Nat, n < 65536 ∧ v = .int .u16 (n : Int) := by
  obtain ⟨x, rfl, _, _, w⟩ := open_int Try.underlying41 hv h
  obtain ⟨b, hb, rfl⟩ := u16_of_wf w
  exact ⟨b, hb, rfl⟩
theorem row_u32 (hv : Value.okWide Try.prog W .any base 79 v) (h : DataW.Trod enc Try.prog W 0 sp true 79 v d p) : ∃ n : Nat, n < 4294967296 ∧ v = .int .u32 (n : Int) := by
  obtain ⟨x, rfl, _, _, w⟩ := open_int Try.underlying79 hv h
  obtain ⟨b, hb, rfl⟩ := u32_of_wf w
  exact ⟨b, hb, rfl⟩
theorem row_int (hv : Value.okWide Try.prog W .any base 3 v) (h : DataW.Trod enc Try.prog W 0 sp true 3 v d p) : ∃ x : Int, -9223372036854775808 ≤ x ∧ x ≤ 9223372036854775807 ∧ v = .int .i64 x := by
  obtain ⟨x, rfl, _, _, w⟩ := open_int Try.underlying3 hv h
  obtain ⟨h1, h2⟩ := i64_of_wf w
  exact ⟨x, h1, h2, rfl⟩
theorem row_int64 (hv : Value.okWide Try.prog W .any base 2 v) (h : DataW.Trod enc Try.prog W 0 sp true 2 v d p) : ∃ x : Int, -9223372036854775808 ≤ x ∧ x ≤ 9223372036854775807 ∧ v = .int .i64 x := by
  obtain ⟨x, rfl, _, _, w⟩ := open_int Try.underlying2 hv h
  obtain ⟨h1, h2⟩ := i64_of_wf w
  exact ⟨x, h1, h2, rfl⟩
theorem row_string (hv : Value.okWide Try.prog W .any base 9 v) (h : DataW.Trod enc Try.prog W 0 sp true 9 v d p) : ∃ s, s.size ≤ maxLen ∧ v = .string s := by
  obtain ⟨s, rfl, _, _, w⟩ := open_string Try.underlying9 hv h
  exact ⟨s, w, rfl⟩
/-- The reading of a slice of bytes, at whatever cell. -/
theorem bytes_of_trod {fuel : Nat} {cs : List Value} {x : DataW H × List MemPlace} (h : DataW.trod enc Try.prog W 0 (fun _ => true) true fuel 22 cs = some x) :
    ∃ A n c l, cs = [.slice A n c] ∧ Bs W A n l ∧ n ≤ c := by
  rcases open_ints Try.underlying22 Try.underlying5 (by kernel_rfl) h with ⟨rfl, _⟩ | ⟨a, n, c, zs, rfl, _, hl, hm, hz, _, hcell, hwz⟩
  · exact ⟨none, 0, 0, [], rfl, Bs.nil _ _, Nat.le_refl _⟩
  · have hz' : n ≤ zs.length := by rw [hz]; simpa using hl
    refine ⟨some a, n, c, (zs.take n).map (fun z => UInt8.ofNat z.toNat), rfl, ⟨by simp; omega, ?_⟩, by simpa using hl⟩
    rcases Nat.eq_zero_or_pos n with h0 | h0
    · exact .inl h0
    · obtain ⟨b, o, spot⟩ := a
      have hc0 := hcell 0 (by omega)
      have hspot : spot = none := by simpa [Addr.add] using World.cell?_spot hc0
      subst hspot
      refine .inr ⟨b, o, rfl, fun j hj => ?_⟩
      simp at hj
      have hc := hcell j (by omega)
      rw [add_none] at hc
      rw [hc]
      have hw := hwz zs[j] (List.getElem_mem _)
      obtain ⟨u, hu⟩ := u8_of_wf hw
      simp [List.getD, List.getElem?_eq_getElem (show j < zs.length by omega), hu]
theorem row_bytes_cap (hv : Value.okWide Try.prog W .any base 22 v) (h : DataW.Trod enc Try.prog W 0 (fun _ => true) true 22 v d p) : ∃ A n c l, v = .slice A n c ∧ Bs W A n l ∧ n ≤ c := by
  obtain ⟨a, n, c, rfl⟩ := okWide_slice Try.underlying22 hv
  obtain ⟨fuel, hf⟩ := h
  obtain ⟨A, n', c', l, hcs, hb, hc⟩ := bytes_of_trod hf
  simp [Value.cells] at hcs
  obtain ⟨rfl, rfl, rfl⟩ := hcs
  exact ⟨_, _, _, l, rfl, hb, hc⟩
theorem row_bytes (hv : Value.okWide Try.prog W .any base 22 v) (h : DataW.Trod enc Try.prog W 0 (fun _ => true) true 22 v d p) : ∃ A n c l, v = .slice A n c ∧ Bs W A n l := by
  obtain ⟨A, n, c, l, h1, h2, _⟩ := row_bytes_cap hv h
  exact ⟨A, n, c, l, h1, h2⟩
theorem four_list (l : List Value) (h : l.length = 4) : ∃ a b c d, l = [a, b, c, d] := by
  match l, h with
  | [a, b, c, d], _ => exact ⟨a, b, c, d, rfl⟩
theorem places_lt {t : TypeId} (h : DataW.Trod enc Try.prog W 0 (fun _ => true) true t v d p) : ∀ x ∈ p, x.block < W.heap.size := by
  obtain ⟨m, hm⟩ := h
  exact DataW.trod_lt m _ _ _ hm
end
end Go.Proofs.Ytiheeajepnpejaa
