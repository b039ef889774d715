/- Write, Renew and Len of the package journal, walked. -/
import Derived.Test.YtiheeajepnpejaaJouO
namespace Go.Proofs.Ytiheeajepnpejaa
open Go.RowKit TapM FrameM JouM
/-- w' is w but for two blocks and what is new. -/
structure Two (w w' : World) (p q : Nat) : Prop where
  os : w'.os = w.os
  tape : w'.tape = w.tape
  output : w'.output = w.output
  size : w.heap.size ≤ w'.heap.size
  block : ∀ k, k < w.heap.size → k ≠ p → k ≠ q → w'.heap[k]? = w.heap[k]?
section
variable {w w' w1 : World} {p q B : Nat}
theorem Two.refl (w : World) (p q : Nat) : Two w w p q := ⟨rfl, rfl, rfl, Nat.le_refl _, fun _ _ _ _ => rfl⟩
theorem Two.left (h : w.grownBy w' (some p)) (q : Nat) : Two w w' p q := ⟨h.os, h.tape, h.output, h.size, fun k hk h1 _ => h.block k hk (by simpa using h1)⟩
theorem Two.right (h : w.grownBy w' (some q)) (p : Nat) : Two w w' p q := ⟨h.os, h.tape, h.output, h.size, fun k hk _ h1 => h.block k hk (by simpa using h1)⟩
theorem Two.trans (h : Two w w1 p q) (k : Two w1 w' p q) : Two w w' p q :=
  ⟨k.os.trans h.os, k.tape.trans h.tape, k.output.trans h.output, Nat.le_trans h.size k.size, fun i hi h1 h2 => (k.block i (Nat.lt_of_lt_of_le hi h.size) h1 h2).trans (h.block i hi h1 h2)⟩
theorem Two.of (h : Below w.heap.size w w') (p q : Nat) : Two w w' p q := ⟨h.os, h.tape, h.output, h.size, fun k hk _ _ => h.block k hk⟩
theorem below_two {a : World} (hb : Below B a w) (h : Two w w' p q) (hp : B ≤ p) (hq : B ≤ q) (hB : B ≤ w.heap.size) : Below B a w' :=
  ⟨h.os.trans hb.os, h.tape.trans hb.tape, h.output.trans hb.output, Nat.le_trans hb.size h.size, fun k hk => (h.block k (Nat.lt_of_lt_of_le hk hB) (by omega) (by omega)).trans (hb.block k hk)⟩
theorem Cells.two {g : Nat} {t : TypeId} {cs : Array Value} (h : Cells w g t cs) (k : Two w w' p q) (hp : g ≠ p) (hq : g ≠ q) : Cells w' g t cs := (k.block g h.lt hp hq).trans h
theorem Own.two {base : Nat} {v : Value} {l : List UInt8} {t t' : TypeId} {cs cs' : Array Value} (h : Own w base v l) (k : Two w w' p q) (hp : Cells w p t cs) (ht : t ≠ 5) (hq : Cells w q t' cs') (ht' : t' ≠ 5) : Own w' base v l := by
  have h1 := h.apart hp ht
  have h2 := h.apart hq ht'
  refine ⟨h.1, ?_⟩
  rcases h.2 with hn | ⟨g, cap, cur, rfl, hb, hgg, rest⟩
  · exact .inl hn
  · refine .inr ⟨g, cap, cur, rfl, hb, ?_, rest⟩
    rw [k.block g (Array.getElem?_eq_some_iff.1 hgg).1 (fun e => h1 (by rw [e]; rfl)) (fun e => h2 (by rw [e]; rfl))]
    exact hgg
end
theorem jou_ne : (70 : TypeId) ≠ 5 := by decide
/-- In block q lies a journal of n records on the tape at p. -/
def JAt (w : World) (q p n : Nat) : Prop := Cells w q 70 #[.pointer (some ⟨p, 0, none⟩), .int .i64 (n : Int)]
theorem jlen_any (q p n : Nat) (w : World) (h : JAt w q p n) : Calls Try.prog 15 #[.pointer (some ⟨q, 0, none⟩)] w fun e w' => e = .returned (.int .i64 (n : Int)) ∧ w = w' := by
  have h1 : w.cell? ⟨q, 1, none⟩ = some (.int .i64 (n : Int)) := h.cell 1
  go_enter Try.func15, Try.ntmps15
  go_wp2
  go_ret
  exact ⟨rfl, rfl⟩
theorem jlen_nil (w : World) : Calls Try.prog 15 #[.pointer none] w fun e w' => e = .returned (.int .i64 0) ∧ w = w' := by
  go_enter Try.func15, Try.ntmps15
  go_wp2
  go_ret
  exact ⟨rfl, rfl⟩
theorem write_nil (A : Option Addr) (n c : Nat) (w : World) : Calls Try.prog 13 #[.pointer none, .slice A n c] w fun e w' => e = .returned (.int .i64 1) ∧ w = w' := by
  go_enter Try.func13, Try.ntmps13
  go_wp2
  go_ret
  exact ⟨rfl, rfl⟩
theorem renew_nil (A : Option Addr) (n c : Nat) (w : World) : Calls Try.prog 14 #[.pointer none, .slice A n c] w fun e w' => e = .returned (.int .i64 1) ∧ w = w' := by
  go_enter Try.func14, Try.ntmps14
  go_wp2
  go_ret
  exact ⟨rfl, rfl⟩
/-- What Write and Renew leave. -/
structure Wrote (w w' : World) (p q : Nat) (r : TS × Nat) : Prop where
  tape : TapeAt w' p r.1
  jou : JAt w' q p r.2
  two : Two w w' p q
set_option maxHeartbeats 3200000 in
theorem write_any (p q : Nat) (s : TS) (n : Nat) (A : Option Addr) (m c : Nat) (l : List UInt8) (w : World) (h : TapeAt w p s) (hj : JAt w q p n) (hqp : q ≠ p) (hl : Bs w A m l) (hn : n ≤ 1000000000) :
    Calls Try.prog 13 #[.pointer (some ⟨q, 0, none⟩), .slice A m c] w fun e w' => e = .returned (.int .i64 ((JouM.write s n l).2 : Nat)) ∧ Wrote w w' p q (JouM.write s n l).1 := by
  have hml := hl.1
  by_cases hm : 60000 < m
  · have e : JouM.write s n l = ((s, n), 3) := by unfold JouM.write; rw [if_pos (by omega)]
    rw [e]
    clear e hml
    go_enter Try.func13, Try.ntmps13
    go_wp2_with (go_at_call 32; refine (frame_long A m c hm _).mono ?_; rintro e w1 ⟨rfl, rfl⟩)
    go_ret
    exact ⟨rfl, h, hj, Two.refl _ _ _⟩
  · have e : JouM.write s n l = if (s.append (frame l)).2 ≠ 0 then (((s.append (frame l)).1, n), (s.append (frame l)).2) else
        if (s.append (frame l)).1.sync.2 ≠ 0 then (((s.append (frame l)).1.sync.1, n), (s.append (frame l)).1.sync.2) else (((s.append (frame l)).1.sync.1, n + 1), 0) := by
      unfold JouM.write; rw [if_neg (by omega)]
    rw [e]
    have HF := Lib.hid (fun W h => frame_any A m c l W h (by omega))
    have hfl : (frame l).length = m + 8 := by rw [frame_length, hml]
    have HA := Lib.hid (fun A2 c2 W h hb => append_any p s A2 (m + 8) c2 (frame l) W h hb)
    generalize s.append (frame l) = r1 at HA ⊢
    obtain ⟨s1, e1⟩ := r1
    have HS := Lib.hid (fun W h => sync_any p s1 W h)
    generalize hr2 : s1.sync = r2 at HS ⊢
    obtain ⟨s2, e2⟩ := r2
    simp only
    have j0 : w.cell? ⟨q, 0, none⟩ = some (.pointer (some ⟨p, 0, none⟩)) := hj.cell 0
    clear e hml hfl hr2
    by_cases h1 : e1 = 0
    · subst h1
      rw [if_neg (by simp)]
      by_cases h2 : e2 = 0
      · subst h2
        rw [if_neg (by simp)]
        go_enter Try.func13, Try.ntmps13
        go_wp2_with (first
          | (go_at_call 32; refine (HF.out _ hl).mono ?_; rintro e w1 ⟨A1, c1, rfl, hO1, hb1⟩; have hj1 : JAt w1 q p n := hj.below hb1; have k0 := hj1.cell 0; have hT1 := h.below hb1)
          | (go_at_call 33; refine (HA.out A1 c1 _ hT1 hO1.bs).mono ?_; rintro e w2 ⟨rfl, ht2⟩; have hj2 : JAt w2 q p n := Cells.grown hj1 ht2.only (by simpa using hqp); have m0 := hj2.cell 0)
          | (go_at_call 34; refine (HS.out _ ht2.tape).mono ?_; rintro e w3 ⟨rfl, ht3⟩; have hj3 : JAt w3 q p n := Cells.grown hj2 ht3.only (by simpa using hqp); have n1 : w3.cell? ⟨q, 1, none⟩ = some (.int .i64 (n : Int)) := hj3.cell 1; have nf := hj3.free 1))
        go_ret
        have hG := only_store (only_refl w3 (some q)) 1 (.int .i64 ((n : Int) + 1))
        exact ⟨rfl, ht3.tape.far hj3 jou_ne hqp.symm hG, Cells.store hj3 1 (.int .i64 ((n : Int) + 1)), (((Two.of hb1 p q).trans (Two.left ht2.only q)).trans (Two.left ht3.only q)).trans (Two.right hG p)⟩
      · have he : ((e2 : Int) != 0) = true := by rw [bne_iff_ne]; omega
        rw [if_pos h2]
        go_enter Try.func13, Try.ntmps13
        go_wp2_with (first
          | (go_at_call 32; refine (HF.out _ hl).mono ?_; rintro e w1 ⟨A1, c1, rfl, hO1, hb1⟩; have hj1 : JAt w1 q p n := hj.below hb1; have k0 := hj1.cell 0; have hT1 := h.below hb1)
          | (go_at_call 33; refine (HA.out A1 c1 _ hT1 hO1.bs).mono ?_; rintro e w2 ⟨rfl, ht2⟩; have hj2 : JAt w2 q p n := Cells.grown hj1 ht2.only (by simpa using hqp); have m0 := hj2.cell 0)
          | (go_at_call 34; refine (HS.out _ ht2.tape).mono ?_; rintro e w3 ⟨rfl, ht3⟩; have hj3 : JAt w3 q p n := Cells.grown hj2 ht3.only (by simpa using hqp); have n1 : w3.cell? ⟨q, 1, none⟩ = some (.int .i64 (n : Int)) := hj3.cell 1; have nf := hj3.free 1))
        go_ret
        exact ⟨rfl, ht3.tape, hj3, ((Two.of hb1 p q).trans (Two.left ht2.only q)).trans (Two.left ht3.only q)⟩
    · have he : ((e1 : Int) != 0) = true := by rw [bne_iff_ne]; omega
      rw [if_pos h1]
      clear HS
      go_enter Try.func13, Try.ntmps13
      go_wp2_with (first
        | (go_at_call 32; refine (HF.out _ hl).mono ?_; rintro e w1 ⟨A1, c1, rfl, hO1, hb1⟩; have hj1 : JAt w1 q p n := hj.below hb1; have k0 := hj1.cell 0; have hT1 := h.below hb1)
        | (go_at_call 33; refine (HA.out A1 c1 _ hT1 hO1.bs).mono ?_; rintro e w2 ⟨rfl, ht2⟩; have hj2 : JAt w2 q p n := Cells.grown hj1 ht2.only (by simpa using hqp); have m0 := hj2.cell 0))
      go_ret
      exact ⟨rfl, ht2.tape, hj2, (Two.of hb1 p q).trans (Two.left ht2.only q)⟩
set_option maxHeartbeats 3200000 in
theorem renew_any (p q : Nat) (s : TS) (n : Nat) (A : Option Addr) (m c : Nat) (l : List UInt8) (w : World) (h : TapeAt w p s) (hj : JAt w q p n) (hqp : q ≠ p) (hl : Bs w A m l) :
    Calls Try.prog 14 #[.pointer (some ⟨q, 0, none⟩), .slice A m c] w fun e w' => e = .returned (.int .i64 ((JouM.renew s n l).2 : Nat)) ∧ Wrote w w' p q (JouM.renew s n l).1 := by
  have hml := hl.1
  by_cases hm : 60000 < m
  · have e : JouM.renew s n l = ((s, n), 3) := by unfold JouM.renew; rw [if_pos (by omega)]
    rw [e]
    clear e hml
    go_enter Try.func14, Try.ntmps14
    go_wp2_with (go_at_call 32; refine (frame_long A m c hm _).mono ?_; rintro e w1 ⟨rfl, rfl⟩)
    go_ret
    exact ⟨rfl, h, hj, Two.refl _ _ _⟩
  · have e : JouM.renew s n l = (((s.replace (frame l)).1, if (s.replace (frame l)).2 = 0 then 0 else n), (s.replace (frame l)).2) := by
      unfold JouM.renew; rw [if_neg (by omega)]
    rw [e]
    have HF := Lib.hid (fun W h => frame_any A m c l W h (by omega))
    have hfl : (frame l).length = m + 8 := by rw [frame_length, hml]
    have HA := Lib.hid (fun A2 c2 W h hb => replace_any p s A2 (m + 8) c2 (frame l) W h hb)
    generalize s.replace (frame l) = r1 at HA ⊢
    obtain ⟨s1, e1⟩ := r1
    simp only
    have j0 : w.cell? ⟨q, 0, none⟩ = some (.pointer (some ⟨p, 0, none⟩)) := hj.cell 0
    clear e hml hfl
    by_cases h1 : e1 = 0
    · subst h1
      rw [if_pos rfl]
      go_enter Try.func14, Try.ntmps14
      go_wp2_with (first
        | (go_at_call 32; refine (HF.out _ hl).mono ?_; rintro e w1 ⟨A1, c1, rfl, hO1, hb1⟩; have hj1 : JAt w1 q p n := hj.below hb1; have k0 := hj1.cell 0; have hT1 := h.below hb1)
        | (go_at_call 7; refine (HA.out A1 c1 _ hT1 hO1.bs).mono ?_; rintro e w2 ⟨rfl, ht2⟩; have hj2 : JAt w2 q p n := Cells.grown hj1 ht2.only (by simpa using hqp); have m1 : w2.cell? ⟨q, 1, none⟩ = some (.int .i64 (n : Int)) := hj2.cell 1; have mf := hj2.free 1))
      go_ret
      have hG := only_store (only_refl w2 (some q)) 1 (.int .i64 0)
      exact ⟨rfl, ht2.tape.far hj2 jou_ne hqp.symm hG, Cells.store hj2 1 (.int .i64 0), ((Two.of hb1 p q).trans (Two.left ht2.only q)).trans (Two.right hG p)⟩
    · have he : ((e1 : Int) != 0) = true := by rw [bne_iff_ne]; omega
      rw [if_neg h1]
      go_enter Try.func14, Try.ntmps14
      go_wp2_with (first
        | (go_at_call 32; refine (HF.out _ hl).mono ?_; rintro e w1 ⟨A1, c1, rfl, hO1, hb1⟩; have hj1 : JAt w1 q p n := hj.below hb1; have k0 := hj1.cell 0; have hT1 := h.below hb1)
        | (go_at_call 7; refine (HA.out A1 c1 _ hT1 hO1.bs).mono ?_; rintro e w2 ⟨rfl, ht2⟩; have hj2 : JAt w2 q p n := Cells.grown hj1 ht2.only (by simpa using hqp)))
      go_ret
      exact ⟨rfl, ht2.tape, hj2, (Two.of hb1 p q).trans (Two.left ht2.only q)⟩
end Go.Proofs.Ytiheeajepnpejaa
