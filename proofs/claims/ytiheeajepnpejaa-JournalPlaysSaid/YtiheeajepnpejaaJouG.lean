/- A journal or none, and opens, Len over it: for the law JournalPlays. -/
import Derived.Test.YtiheeajepnpejaaJouZ
namespace Go.Proofs.Ytiheeajepnpejaa
open Go.RowKit TapM FrameM JouM
/-- v is a journal of n records on the tape p, or none. -/
def JOr (w : World) (B : Nat) (v : Value) (p n : Nat) : Prop := (v = .pointer none ∧ n = 0) ∨ ∃ q, v = .pointer (some ⟨q, 0, none⟩) ∧ JAt w q p n ∧ q ≠ p ∧ B ≤ q
theorem JOr.below {w w' : World} {B p n : Nat} {v : Value} (h : JOr w B v p n) (hb : Below w.heap.size w w') : JOr w' B v p n :=
  h.imp id fun ⟨q, hv, hj, hq⟩ => ⟨q, hv, Cells.below hj hb, hq⟩
theorem JOr.drewN {w : World} {B p n : Nat} {v : Value} (h : JOr w B v p n) (k : Nat) : JOr (w.drewN k) B v p n := h
theorem JOr.drew {w : World} {B p n : Nat} {v : Value} (h : JOr w B v p n) : JOr w.drew B v p n := h
theorem JOr.alloc {w : World} {B p n : Nat} {v : Value} (h : JOr w B v p n) (o : Obj) : JOr (w.alloc o) B v p n := h.below (bl_alloc (Below.refl _ w) o)
theorem JOr.tape {w w' : World} {B p n : Nat} {v : Value} (h : JOr w B v p n) (hg : w.grownBy w' (some p)) : JOr w' B v p n :=
  h.imp id fun ⟨q, hv, hj, hq, hB⟩ => ⟨q, hv, Cells.grown hj hg (by simpa using hq), hq, hB⟩
theorem JOr.far {w w' : World} {B p n r : Nat} {v : Value} {cs : Array Value} (h : JOr w B v p n) (hg : w.grownBy w' (some r)) (hc : Cells w r 36 cs) : JOr w' B v p n :=
  h.imp id fun ⟨q, hv, hj, hq⟩ => ⟨q, hv, Cells.grown hj hg (by
    intro e
    injection e with e
    subst e
    have e2 := (Option.some.inj (hj.symm.trans hc))
    injection e2 with _ e3
    exact absurd e3 (by decide)), hq⟩
theorem jlen_or (v : Value) (B p n : Nat) (w : World) (h : JOr w B v p n) : Calls Try.prog 15 #[v] w fun e w' => e = .returned (.int .i64 (n : Int)) ∧ w = w' := by
  obtain ⟨rfl, rfl⟩ | ⟨q, rfl, hj, _⟩ := h
  · exact jlen_nil w
  · exact jlen_any q p n w hj
/-- What opens leaves and answers. -/
def OpenedOr (w : World) (B p : Nat) (s2 : TS) (e : Ending) (w' : World) : Prop :=
  ∃ (v : Value) (A2 : Option Addr) (c2 n : Nat), e = .returned (.tuple #[v, .agg #[.int .i64 (s2.cap : Int), .slice A2 s2.b.length c2, .int .i64 (s2.safe : Int), .int .i64 s2.fuse, .bool s2.lost, .int .i64 (n : Int)], .bool true]) ∧
    n ≤ 1048577 ∧ JOr w' B v p n ∧ TapeAt w' p s2 ∧ w.grownBy w' (some p) ∧ Own w' B (.slice A2 s2.b.length c2) s2.b
theorem opens_or (B p : Nat) (s : TS) (A : Option Addr) (c : Nat) (X : Option Addr) (m d : Nat) (base : List UInt8) (w : World) (hT : TapeAt w p s) (ho : Own w B (.slice A s.b.length c) s.b) (hb : Bs w X m base) (hs : s.b.length ≤ 1000000) (hB : B ≤ w.heap.size) :
    Calls Try.prog 10 #[.pointer (some ⟨p, 0, none⟩), .agg #[.int .i64 (s.cap : Int), .slice A s.b.length c, .int .i64 (s.safe : Int), .int .i64 s.fuse, .bool s.lost], .slice X m d] w (OpenedOr w B p (opened s base).1) := by
  refine (opens_any B p s A c X m d base w hT ho hb hs hB).mono ?_
  have hR := opened_recs hT.ok base
  have hlt := hT.lt
  rintro e w' ⟨A2, c2, h1, h2, h3, ⟨h0, q, x, xs, hL, hq, hj, rfl⟩ | ⟨h0, rfl⟩⟩
  · obtain ⟨x', xs', hL', hx⟩ := hR h0
    rw [hL] at hL'
    obtain rfl : xs = xs' := (List.cons.inj hL').2
    exact ⟨_, A2, c2, xs.length, rfl, hx, .inr ⟨q, rfl, hj, by omega, by omega⟩, h1, h2, h3⟩
  · exact ⟨_, A2, c2, 0, rfl, by omega, .inl ⟨rfl, rfl⟩, h1, h2, h3⟩
end Go.Proofs.Ytiheeajepnpejaa
