/- The reference's tape (a value), walked: each function answers what TapM says. -/
import Derived.Test.YtiheeajepnpejaaTapR
namespace Go.Proofs.Ytiheeajepnpejaa
open Go.RowKit TapM
theorem refnew_any (n : Int) (w : World) : Calls Try.prog 8 #[.int .i64 n] w fun e w' => e = .returned (.agg #[.int .i64 n, .slice none 0 0, .int .i64 0, .int .i64 (-1), .bool false]) ∧ Below w.heap.size w w' := by
  go_enter Try.func8, Try.ntmps8
  go_wp2
  refine bodyPost_ret (v := .agg #[.int .i64 n, .slice none 0 0, .int .i64 0, .int .i64 (-1), .bool false]) (by simp [results, Try.results8, go_sem]) rfl ⟨rfl, ?_⟩
  exact (Below.refl _ _).alloc (Nat.le_refl _) _
theorem refdone_yes (cap : Int) (A : Option Addr) (k c : Nat) (safe : Int) (lost : Bool) (w : World) :
    Calls Try.prog 28 #[.agg #[.int .i64 cap, .slice A k c, .int .i64 safe, .int .i64 0, .bool lost]] w fun e w' => e = .returned (.agg #[.int .i64 cap, .slice A k c, .int .i64 safe, .int .i64 0, .bool true]) ∧ Below w.heap.size w w' := by
  go_enter Try.func28, Try.ntmps28
  go_wp2
  refine bodyPost_ret (v := .agg #[.int .i64 cap, .slice A k c, .int .i64 safe, .int .i64 0, .bool true]) (by simp [results, Try.results28, go_sem]) rfl ⟨rfl, ?_⟩
  exact ((Below.refl _ _).alloc (Nat.le_refl _) _).alloc (by simp) _
theorem refdone_no (cap : Int) (A : Option Addr) (k c : Nat) (safe fuse : Int) (lost : Bool) (h0 : fuse ≠ 0) (h1 : -1 ≤ fuse) (h2 : fuse ≤ 9223372036854775807) (w : World) :
    Calls Try.prog 28 #[.agg #[.int .i64 cap, .slice A k c, .int .i64 safe, .int .i64 fuse, .bool lost]] w fun e w' => e = .returned (.agg #[.int .i64 cap, .slice A k c, .int .i64 safe, .int .i64 (dec fuse), .bool lost]) ∧ Below w.heap.size w w' := by
  have e0 : (fuse == 0) = false := beq_eq_false_iff_ne.2 h0
  by_cases hp : 0 < fuse
  · have hd : dec fuse = fuse - 1 := by unfold dec; rw [if_pos hp]
    rw [hd]
    clear hd
    go_enter Try.func28, Try.ntmps28
    go_wp2
    refine bodyPost_ret (v := .agg #[.int .i64 cap, .slice A k c, .int .i64 safe, .int .i64 (fuse - 1), .bool lost]) (by simp [results, Try.results28, go_sem]) rfl ⟨rfl, ?_⟩
    exact ((Below.refl _ _).alloc (Nat.le_refl _) _).alloc (by simp) _
  · have hd : dec fuse = fuse := by unfold dec; rw [if_neg hp]
    rw [hd]
    clear hd
    go_enter Try.func28, Try.ntmps28
    go_wp2
    refine bodyPost_ret (v := .agg #[.int .i64 cap, .slice A k c, .int .i64 safe, .int .i64 fuse, .bool lost]) (by simp [results, Try.results28, go_sem]) rfl ⟨rfl, ?_⟩
    exact ((Below.refl _ _).alloc (Nat.le_refl _) _).alloc (by simp) _
theorem bl_alloc {w w' : World} (h : Below w.heap.size w w') (o : Obj) : Below w.heap.size w (w'.alloc o) := h.alloc h.size o
theorem bl_set {w w' : World} (h : Below w.heap.size w w') {a : Addr} (ha : w.heap.size ≤ a.block) (u : Value) : Below w.heap.size w (w'.setCell a u) := h.setCell ha u
/-- Two boxes, behind a call that left them. -/
theorem two_boxes {w w1 : World} {t : TypeId} {a b : Array Value} (hb : Below ((w.alloc (.cells a t)).alloc (.cells b t)).heap.size ((w.alloc (.cells a t)).alloc (.cells b t)) w1) :
    Cells w1 w.heap.size t a ∧ Cells w1 (w.heap.size + 1) t b ∧ w.heap.size + 1 < w1.heap.size ∧ Below w.heap.size w w1 := by
  have hA := ((Cells.new w t a).alloc (.cells b t)).below hb
  have hB := (Cells.new (w.alloc (.cells a t)) t b).below hb
  have e : (w.alloc (.cells a t)).heap.size = w.heap.size + 1 := by simp
  rw [e] at hB
  exact ⟨hA, hB, hB.lt, (bl_alloc (bl_alloc (Below.refl _ w) _) _).trans (hb.mono (by simp; omega))⟩
theorem five {w : World} {p : Nat} {t : TypeId} {a0 a1 a2 a3 a4 : Value} (h : Cells w p t #[a0, a1, a2, a3, a4]) :
    w.cell? ⟨p, 0, none⟩ = some a0 ∧ w.cell? ⟨p, 1, none⟩ = some a1 ∧ w.cell? ⟨p, 2, none⟩ = some a2 ∧ w.cell? ⟨p, 3, none⟩ = some a3 ∧ w.cell? ⟨p, 4, none⟩ = some a4 ∧ ∀ i, w.frozen? ⟨p, i, none⟩ = false :=
  ⟨h.cell 0, h.cell 1, h.cell 2, h.cell 3, h.cell 4, h.free⟩
/-- A tape as a value. -/
def refv (s : TS) (A : Option Addr) (c : Nat) : Value := .agg #[.int .i64 (s.cap : Int), .slice A s.b.length c, .int .i64 (s.safe : Int), .int .i64 s.fuse, .bool s.lost]
/-- What a reference's call that turns a tape answers: the tape as a value, its bytes where they were or in a new row. -/
def RefTo (w : World) (B : Nat) (A : Option Addr) (c : Nat) (r : TS × Nat) (e : Ending) (w' : World) : Prop :=
  ∃ A2 c2, e = .returned (.tuple #[refv r.1 A2 c2, .int .i64 (r.2 : Nat)]) ∧ Own w' B (.slice A2 r.1.b.length c2) r.1.b ∧ Below w.heap.size w w' ∧
    ((A2 = A ∧ c2 = c) ∨ ∀ g, (Value.slice A2 r.1.b.length c2).ownBlock = some g → w.heap.size ≤ g)
theorem refsync_any (B : Nat) (s : TS) (A : Option Addr) (c : Nat) (w : World) (hok : s.Ok) (ho : Own w B (.slice A s.b.length c) s.b) :
    Calls Try.prog 37 #[.agg #[.int .i64 (s.cap : Int), .slice A s.b.length c, .int .i64 (s.safe : Int), .int .i64 s.fuse, .bool s.lost]] w (RefTo w B A c s.sync) := by
  have hf0 := hok.f0
  have hf1 := hok.f1
  obtain ⟨cap, b, safe, fuse, lost⟩ := s
  simp only at ho hf0 hf1 ⊢
  cases lost with
  | true =>
    rw [sync_lost rfl]
    clear hok
    go_enter Try.func37, Try.ntmps37
    go_wp2
    refine bodyPost_ret (v := .tuple #[.agg #[.int .i64 (cap : Int), .slice A b.length c, .int .i64 (safe : Int), .int .i64 fuse, .bool true], .int .i64 9]) (by simp [results, Try.results37, go_sem, *]) rfl ?_
    refine ⟨A, c, rfl, ho.below ?_, ?_, .inl ⟨rfl, rfl⟩⟩ <;> (repeat (first | (with_reducible refine bl_set ?_ (by simp) _) | (with_reducible refine bl_alloc ?_ _) | with_reducible exact hbw | with_reducible exact Below.refl _ _))
  | false =>
    by_cases hz : fuse = 0
    · subst hz
      rw [sync_burn rfl rfl]
      clear hok
      go_enter Try.func37, Try.ntmps37
      go_wp2_with (go_at_call 28; refine (refdone_yes _ _ _ _ _ _ _).mono ?_; rintro e w1 ⟨rfl, hb1⟩; obtain ⟨hA, hR, hz1, hbw⟩ := two_boxes hb1; obtain ⟨c0, c1, c2', c3, c4, f0⟩ := five hA; obtain ⟨d0, d1, d2, d3, d4, f1⟩ := five hR; clear hb1)
      refine bodyPost_ret (v := .tuple #[.agg #[.int .i64 (cap : Int), .slice A b.length c, .int .i64 (safe : Int), .int .i64 0, .bool true], .int .i64 9]) (by simp [results, Try.results37, go_sem, *]) rfl ?_
      refine ⟨A, c, rfl, ho.below ?_, ?_, .inl ⟨rfl, rfl⟩⟩ <;> (repeat (first | (with_reducible refine bl_set ?_ (by simp) _) | (with_reducible refine bl_alloc ?_ _) | with_reducible exact hbw | with_reducible exact Below.refl _ _))
    · rw [sync_ok rfl hz]
      clear hok
      go_enter Try.func37, Try.ntmps37
      go_wp2_with (go_at_call 28; refine (refdone_no _ _ _ _ _ _ _ hz hf0 hf1 _).mono ?_; rintro e w1 ⟨rfl, hb1⟩; obtain ⟨hA, hR, hz1, hbw⟩ := two_boxes hb1; obtain ⟨c0, c1, c2', c3, c4, f0⟩ := five hA; obtain ⟨d0, d1, d2, d3, d4, f1⟩ := five hR; clear hb1)
      refine bodyPost_ret (v := .tuple #[.agg #[.int .i64 (cap : Int), .slice A b.length c, .int .i64 (b.length : Int), .int .i64 (dec fuse), .bool false], .int .i64 0]) (by simp [results, Try.results37, go_sem, *]) rfl ?_
      refine ⟨A, c, rfl, ho.below ?_, ?_, .inl ⟨rfl, rfl⟩⟩ <;> (repeat (first | (with_reducible refine bl_set ?_ (by simp) _) | (with_reducible refine bl_alloc ?_ _) | with_reducible exact hbw | with_reducible exact Below.refl _ _))
end Go.Proofs.Ytiheeajepnpejaa
