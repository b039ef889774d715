/- journal.Open, walked. -/
import Derived.Test.YtiheeajepnpejaaJouF
import Derived.RegionTactic
import Derived.Deep.RegionHeld3
namespace Go.Proofs.Ytiheeajepnpejaa
open Go.RowKit TapM FrameM JouM
section
variable {s : TS} {base : List UInt8}
theorem opened_long (h : 60000 < base.length) : opened s base = (s, [], 3) := by unfold opened; rw [if_pos h]
theorem opened_lost (h : ¬ 60000 < base.length) (hl : s.lost = true) : opened s base = (s, [], 9) := by unfold opened; rw [if_neg h, if_pos hl]
theorem opened_same (h : ¬ 60000 < base.length) (hl : s.lost = false) (hr : ¬ ((framed (recs s.b)).length = 0 ∨ (framed (recs s.b)).length < s.b.length)) : opened s base = (s, base1 s.b base, 0) := by
  unfold opened; rw [if_neg h, if_neg (by simp [hl]), if_neg hr]
theorem opened_rep (h : ¬ 60000 < base.length) (hl : s.lost = false) (hr : (framed (recs s.b)).length = 0 ∨ (framed (recs s.b)).length < s.b.length) (he : (s.replace (framed (base1 s.b base))).2 = 0) :
    opened s base = ((s.replace (framed (base1 s.b base))).1, base1 s.b base, 0) := by
  unfold opened; rw [if_neg h, if_neg (by simp [hl]), if_pos hr, if_pos he]
theorem opened_fail (h : ¬ 60000 < base.length) (hl : s.lost = false) (hr : (framed (recs s.b)).length = 0 ∨ (framed (recs s.b)).length < s.b.length) (he : ¬ (s.replace (framed (base1 s.b base))).2 = 0) :
    opened s base = ((s.replace (framed (base1 s.b base))).1, [], (s.replace (framed (base1 s.b base))).2) := by
  unfold opened; rw [if_neg h, if_neg (by simp [hl]), if_pos hr, if_neg he]
end
/-- What Open leaves and answers. -/
def Opened (w : World) (p : Nat) (r : TS × List (List UInt8) × Nat) (e : Ending) (w' : World) : Prop :=
  TapeAt w' p r.1 ∧ w.grownBy w' (some p) ∧
  ((r.2.2 = 0 ∧ ∃ q A1 c1 x A2 c2 xs, r.2.1 = x :: xs ∧ e = .returned (.tuple #[.pointer (some ⟨q, 0, none⟩), .slice A1 x.length c1, .slice A2 xs.length c2, .int .i64 0]) ∧ w.heap.size ≤ q ∧
      Cells w' q 70 #[.pointer (some ⟨p, 0, none⟩), .int .i64 (xs.length : Int)] ∧ Bs w' A1 x.length x ∧ Rws w' A2 xs.length xs) ∨
   (r.2.2 ≠ 0 ∧ e = .returned (.tuple #[.pointer none, .slice none 0 0, .slice none 0 0, .int .i64 (r.2.2 : Nat)])))
theorem results_4 {fn : Func} {t u v x : Tmp} (h : fn.results = #[.tmp t, .tmp u, .tmp v, .tmp x]) (tmps : Array Value) (P : Program) (w : World) :
    (results fn tmps).run P w = .ok (.tuple #[tmps.getD t undef, tmps.getD u undef, tmps.getD v undef, tmps.getD x undef]) w := by simp [results, h]
theorem open_long (p : Nat) (s : TS) (B : Option Addr) (m d : Nat) (base : List UInt8) (w : World) (h : TapeAt w p s) (hb : Bs w B m base) (hm : 60000 < m) :
    Calls Try.prog 29 #[.pointer (some ⟨p, 0, none⟩), .slice B m d] w (Opened w p (opened s base)) := by
  rw [opened_long (by rw [hb.1]; exact hm)]
  go_enter Try.func29, Try.ntmps29
  go_wp2
  refine bodyPost_ret (results_4 rfl _ _ _) rfl ?_
  exact ⟨h, only_refl _ _, .inr ⟨(by simp), rfl⟩⟩
theorem open_lost (p : Nat) (s : TS) (B : Option Addr) (m d : Nat) (base : List UInt8) (w : World) (h : TapeAt w p s) (hb : Bs w B m base) (hm : ¬ 60000 < m) (hl : s.lost = true) :
    Calls Try.prog 29 #[.pointer (some ⟨p, 0, none⟩), .slice B m d] w (Opened w p (opened s base)) := by
  rw [opened_lost (by rw [hb.1]; exact hm) hl]
  have HR := Lib.hid (fun W h => read_lost p s W h hl)
  clear hl
  go_enter Try.func29, Try.ntmps29
  go_wp2_with (go_at_call 38; refine (HR.out _ h).mono ?_; rintro e w1 ⟨rfl, rfl⟩)
  refine bodyPost_ret (results_4 rfl _ _ _) rfl ?_
  exact ⟨h, only_refl _ _, .inr ⟨(by simp), rfl⟩⟩
/-- The records without the first one. -/
theorem Rws.tail {w : World} {b o n : Nat} {x : List UInt8} {xs : List (List UInt8)} (h : Rws w (some ⟨b, o, none⟩) n (x :: xs)) (A : Option Addr) (hA : 1 < n → A = some ⟨b, o + 1, none⟩) : Rws w A xs.length xs := by
  obtain ⟨hl, hA'⟩ := h
  refine ⟨rfl, ?_⟩
  by_cases h0 : xs.length = 0
  · exact .inl h0
  · right
    simp at hl
    obtain ⟨b', o', e, hc⟩ := hA'.resolve_left (by omega)
    injection e with e
    injection e with e1 e2
    subst e1 e2
    refine ⟨b, o + 1, hA (by omega), fun j hj => ?_⟩
    have := hc (j + 1) (by simp; omega)
    simp only [List.getElem_cons_succ] at this
    rw [Nat.add_assoc, Nat.add_comm 1 j]
    exact this
theorem Recs.room {w : World} {base n c : Nat} {A : Option Addr} {L : List (List UInt8)} (h : Recs w base (.slice A n c) L) : n ≤ c := by
  obtain ⟨vs, _, h, _⟩ := h
  obtain ⟨A', c', hv, hc⟩ := own_slice h
  injection hv with e1 e2 e3
  omega
theorem Rws.drew {w : World} {A : Option Addr} {n : Nat} {L : List (List UInt8)} (h : Rws w A n L) : Rws w.drew A n L := h
theorem opened_ok {w w2 : World} {p b o c1 c2 : Nat} {s : TS} {x : List UInt8} {xs : List (List UInt8)} {A1 A2 : Option Addr} (hT : TapeAt w2 p s) (hg : w.grownBy w2 (some p)) (hws : Rws w2 (some ⟨b, o, none⟩) (xs.length + 1) (x :: xs)) (hx : Bs w2 A1 x.length x)
    (hA : 1 < xs.length + 1 → A2 = some ⟨b, o + 1, none⟩) :
    Opened w p (s, x :: xs, 0) (.returned (.tuple #[.pointer (some ⟨w2.heap.size, 0, none⟩), .slice A1 x.length c1, .slice A2 xs.length c2, .int .i64 0])) (w2.alloc (.cells #[.pointer (some ⟨p, 0, none⟩), .int .i64 (xs.length : Int)] 70)).drew := by
  have hb : Below w2.heap.size w2 (w2.alloc (.cells #[.pointer (some ⟨p, 0, none⟩), .int .i64 (xs.length : Int)] 70)).drew := (bl_alloc (Below.refl _ w2) _).drew
  exact ⟨hT.below hb, only_below hg hb, .inl ⟨rfl, w2.heap.size, A1, c1, x, A2, c2, xs, rfl, rfl, hg.size, Cells.new w2 _ _, hx.below hb, (hws.tail A2 hA).below hb⟩⟩
set_option maxHeartbeats 1600000 in
theorem open_same (p : Nat) (s : TS) (B : Option Addr) (m d : Nat) (base : List UInt8) (w : World) (h : TapeAt w p s) (hb : Bs w B m base) (hm : ¬ 60000 < m) (hl : s.lost = false) (hs : s.b.length ≤ 1000000)
    (hr : ¬ ((framed (recs s.b)).length = 0 ∨ (framed (recs s.b)).length < s.b.length)) :
    Calls Try.prog 29 #[.pointer (some ⟨p, 0, none⟩), .slice B m d] w (Opened w p (opened s base)) := by
  rw [opened_same (by rw [hb.1]; exact hm) hl hr]
  have hne : recs s.b ≠ [] := fun e => hr (.inl (framed_zero.2 e))
  have hb1 : base1 s.b base = recs s.b := by unfold base1; rw [if_neg hne]
  rw [hb1]
  have hbc := h.ok.bc
  have hcc := h.ok.cc
  have HR := Lib.hid (fun W h => read_on p s W h hl)
  obtain ⟨r, hp⟩ := recs_spec s.b
  have HS := Lib.hid (fun A c W hb hc => scan_any A s.b.length c s.b W hb (by omega) hc hp)
  have hfit := recs_fit s.b
  have h8 := framed_length_le (recs s.b)
  clear hp hl hb1
  generalize hxs : recs s.b = xs at *
  clear hxs
  cases xs with
  | nil => exact absurd rfl hne
  | cons x xs =>
    have hxl : (x :: xs).length = xs.length + 1 := rfl
    rw [hxl] at HS h8
    have k1 : ¬ (framed (x :: xs)).length = 0 := fun e => hr (.inl e)
    have k2 : ¬ (framed (x :: xs)).length < s.b.length := fun e => hr (.inr e)
    obtain ⟨K, hK⟩ : ∃ K, (framed (x :: xs)).length = K := ⟨_, rfl⟩
    rw [hK] at HS h8 k1 k2 hfit
    obtain ⟨N, hN⟩ : ∃ N, s.b.length = N := ⟨_, rfl⟩
    rw [hN] at HR HS hbc hfit k2
    have e1 : ((K : Int) == 0) = false := beq_eq_false_iff_ne.2 (by omega)
    have e2 : (((xs.length : Int) + 1) == 0) = false := beq_eq_false_iff_ne.2 (by omega)
    clear hr hK hN hne k1
    go_enter Try.func29, Try.ntmps29
    go_wp2_with (first
      | (go_at_call 38; refine (HR.out _ h).mono ?_; rintro e w1 ⟨A1, c1, rfl, hO1, hb1⟩)
      | (go_at_call 40; refine (HS.out A1 c1 _ hO1.bs hO1.room).mono ?_; rintro e w2 ⟨A2, c2, rfl, hrec, hb2⟩))
    have hroom := hrec.room
    have hws := hrec.rws
    obtain ⟨g, rfl⟩ := hrec.addr (by omega)
    obtain ⟨A3, d3, hc3, hO3⟩ := hrec.at_ (j := 0) (by simp)
    simp only [List.getElem_cons_zero] at hc3 hO3
    have i1 : IntKind.i64.wrap ((xs.length : Int) + 1 - 1) = (xs.length : Int) := by rw [IntWalk.i64_in _ (by omega)]; omega
    have ne3 := World.new_ne w2 _ hc3
    have hgl : g < w2.heap.size := cell_lt hc3
    clear HR HS
    by_cases hc1 : c2 = 1
    · subst hc1
      have i3 : (1 : Int) ≤ (xs.length : Int) + 1 := by omega
      have HX0 := Lib.hid (show xs.length = 0 by omega)
      go_region
      go_wp2
      refine bodyPost_ret (results_4 rfl _ _ _) rfl ?_
      obtain rfl : xs = [] := List.eq_nil_of_length_eq_zero HX0.out
      exact opened_ok ((h.below hb1).below hb2) (only_of (chain hb1 hb2) _) hws hO3.bs (fun h => absurd h (by simp))
    · have i2 : (1 : Int) ≤ (c2 : Int) := by omega
      have i3 : (1 : Int) ≤ (xs.length : Int) + 1 := by omega
      go_region
      go_wp2
      refine bodyPost_ret (results_4 rfl _ _ _) rfl ?_
      exact opened_ok ((h.below hb1).below hb2) (only_of (chain hb1 hb2) _) hws hO3.bs (fun _ => rfl)
theorem Rws.only {w w' : World} {A : Option Addr} {n p : Nat} {L : List (List UInt8)} {s : TS} (h : Rws w A n L) (hT : TapeAt w p s) (hg : w.grownBy w' (some p)) (hne : ∀ b o, A = some ⟨b, o, none⟩ → b ≠ p) : Rws w' A n L := by
  obtain ⟨_, _, hC, _⟩ := hT.open_
  refine ⟨h.1, h.2.imp id ?_⟩
  rintro ⟨b, o, hA, hc⟩
  refine ⟨b, o, hA, fun j hj => ?_⟩
  obtain ⟨A', c', h1, h2, h3⟩ := hc j hj
  exact ⟨A', c', hg.cell h1 (by intro e; injection e with e; exact hne b o hA e), h2.only hg (h2.ne_tape hC), h3⟩
theorem Rws.lit {w : World} {A : Option Addr} {c : Nat} {l : List UInt8} (h : Bs w A l.length l) (hc : l.length ≤ c) : Rws (w.alloc (.cells #[.slice A l.length c] 22)) (some ⟨w.heap.size, 0, none⟩) 1 [l] := by
  refine ⟨rfl, .inr ⟨w.heap.size, 0, rfl, fun j hj => ?_⟩⟩
  obtain rfl : j = 0 := by simp at hj; omega
  exact ⟨A, c, (Cells.new w _ _).cell 0, h.alloc _, hc⟩
set_option maxHeartbeats 3200000 in
theorem open_more (p : Nat) (s : TS) (B : Option Addr) (m d : Nat) (base : List UInt8) (w : World) (h : TapeAt w p s) (hb : Bs w B m base) (hm : ¬ 60000 < m) (hl : s.lost = false) (hs : s.b.length ≤ 1000000)
    (hne : recs s.b ≠ []) (hr : (framed (recs s.b)).length < s.b.length) :
    Calls Try.prog 29 #[.pointer (some ⟨p, 0, none⟩), .slice B m d] w (Opened w p (opened s base)) := by
  have hb1 : base1 s.b base = recs s.b := by unfold base1; rw [if_neg hne]
  have HO : opened s base = if (s.replace (framed (recs s.b))).2 = 0 then ((s.replace (framed (recs s.b))).1, recs s.b, 0) else ((s.replace (framed (recs s.b))).1, [], (s.replace (framed (recs s.b))).2) := by
    unfold opened
    rw [if_neg (by rw [hb.1]; exact hm), if_neg (by simp [hl]), if_pos (.inr hr), hb1]
  rw [HO]
  have hpl := h.lt
  have HR := Lib.hid (fun W h => read_on p s W h hl)
  obtain ⟨r, hp⟩ := recs_spec s.b
  have HS := Lib.hid (fun A c W hb hc => scan_any A s.b.length c s.b W hb (by omega) hc hp)
  have hfit := recs_fit s.b
  have h8 := framed_length_le (recs s.b)
  have HF := Lib.hid (fun A n c W h => framed_any A n c (recs s.b) W h (fun x hx => recs_short hx) (by omega))
  have HP := Lib.hid (fun A c W h hb => replace_any p s A (framed (recs s.b)).length c (framed (recs s.b)) W h hb)
  generalize s.replace (framed (recs s.b)) = rr at HP ⊢
  obtain ⟨s2, er⟩ := rr
  clear hp hl hb1 HO
  generalize hxs : recs s.b = xs at *
  clear hxs
  cases xs with
  | nil => exact absurd rfl hne
  | cons x xs =>
    have hxl : (x :: xs).length = xs.length + 1 := rfl
    rw [hxl] at HS h8
    obtain ⟨K, hK⟩ : ∃ K, (framed (x :: xs)).length = K := ⟨_, rfl⟩
    rw [hK] at HS h8 hr HF HP hfit
    obtain ⟨N, hN⟩ : ∃ N, s.b.length = N := ⟨_, rfl⟩
    rw [hN] at HR HS hfit hr hs
    have e1 : ((K : Int) == 0) = false := beq_eq_false_iff_ne.2 (by omega)
    have e2 : (((xs.length : Int) + 1) == 0) = false := beq_eq_false_iff_ne.2 (by omega)
    clear hK hN hne
    by_cases he : er = 0
    · subst he
      rw [if_pos rfl]
      go_enter Try.func29, Try.ntmps29
      go_wp2_with (first
        | (go_at_call 38; refine (HR.out _ h).mono ?_; rintro e w1 ⟨A1, c1, rfl, hO1, hb1⟩)
        | (go_at_call 40; refine (HS.out A1 c1 _ hO1.bs hO1.room).mono ?_; rintro e w2 ⟨A2, c2, rfl, hrec, hb2⟩; have hT2 := (h.below hb1).below hb2)
        | (go_at_call 41; refine (HF.out A2 _ c2 _ hrec.rws).mono ?_; rintro e w3 ⟨A3, c3, rfl, hO3, hb3⟩; have hT3 := hT2.below hb3)
        | (go_at_call 7; refine (HP.out A3 c3 _ hT3 hO3.bs).mono ?_; rintro e w4 ⟨rfl, ht4⟩))
      have hroom := hrec.room
      have hg4 : w.grownBy w4 (some p) := only_trans (only_of (chain (chain hb1 hb2) hb3) _) ht4.only
      obtain ⟨g, rfl⟩ := hrec.addr (by omega)
      have hgb : w1.heap.size ≤ g := (hrec.at_block g rfl).1
      have hgp : g ≠ p := by have := hb1.size; omega
      have hws4 := (hrec.rws.below hb3).only hT3 ht4.only (fun b o e => by injection e with e; injection e with e; rw [← e]; exact hgp)
      obtain ⟨b', o', A5, c5, x', e5, hx', hc5, hB5, _⟩ := hws4.at_ (j := 0) (by omega)
      injection e5 with e5
      injection e5 with e5 e6
      subst e5 e6
      obtain rfl : x = x' := by simpa using hx'
      rw [Nat.zero_add] at hc5
      have i1 : IntKind.i64.wrap ((xs.length : Int) + 1 - 1) = (xs.length : Int) := by rw [IntWalk.i64_in _ (by omega)]; omega
      have ne3 := World.new_ne w4 _ hc5
      have hgl : g < w4.heap.size := cell_lt hc5
      have i3 : (1 : Int) ≤ (xs.length : Int) + 1 := by omega
      have hT4 := ht4.tape
      clear HR HS HF HP hx' hrec ht4 hT3 hT2 hb1 hb2 hb3 hO1 hO3
      by_cases hc1 : c2 = 1
      · subst hc1
        have HX0 := Lib.hid (show xs.length = 0 by omega)
        go_region
        go_wp2
        refine bodyPost_ret (results_4 rfl _ _ _) rfl ?_
        obtain rfl : xs = [] := List.eq_nil_of_length_eq_zero HX0.out
        exact opened_ok hT4 hg4 hws4 hB5 (fun h => absurd h (by simp))
      · have i2 : (1 : Int) ≤ (c2 : Int) := by omega
        go_region
        go_wp2
        refine bodyPost_ret (results_4 rfl _ _ _) rfl ?_
        exact opened_ok hT4 hg4 hws4 hB5 (fun _ => rfl)
    · have he1 : ((er : Int) != 0) = true := by rw [bne_iff_ne]; omega
      rw [if_neg he]
      go_enter Try.func29, Try.ntmps29
      go_wp2_with (first
        | (go_at_call 38; refine (HR.out _ h).mono ?_; rintro e w1 ⟨A1, c1, rfl, hO1, hb1⟩)
        | (go_at_call 40; refine (HS.out A1 c1 _ hO1.bs hO1.room).mono ?_; rintro e w2 ⟨A2, c2, rfl, hrec, hb2⟩; have hT2 := (h.below hb1).below hb2)
        | (go_at_call 41; refine (HF.out A2 _ c2 _ hrec.rws).mono ?_; rintro e w3 ⟨A3, c3, rfl, hO3, hb3⟩; have hT3 := hT2.below hb3)
        | (go_at_call 7; refine (HP.out A3 c3 _ hT3 hO3.bs).mono ?_; rintro e w4 ⟨rfl, ht4⟩))
      refine bodyPost_ret (results_4 rfl _ _ _) rfl ?_
      exact ⟨ht4.tape, only_trans (only_of (chain (chain hb1 hb2) hb3) _) ht4.only, .inr ⟨he, rfl⟩⟩
theorem framed_one (x : List UInt8) : (framed [x]).length = x.length + 8 := by rw [framed_cons, framed_nil, List.append_nil, frame_length]
set_option maxHeartbeats 3200000 in
theorem open_empty (p : Nat) (s : TS) (B : Option Addr) (m d : Nat) (base : List UInt8) (w : World) (h : TapeAt w p s) (hb : Bs w B m base) (hm : ¬ 60000 < m) (hl : s.lost = false) (hs : s.b.length ≤ 1000000)
    (hne : recs s.b = []) :
    Calls Try.prog 29 #[.pointer (some ⟨p, 0, none⟩), .slice B m d] w (Opened w p (opened s base)) := by
  have hb1 : base1 s.b base = [base] := by unfold base1; rw [if_pos hne]
  have HO : opened s base = if (s.replace (framed [base])).2 = 0 then ((s.replace (framed [base])).1, [base], 0) else ((s.replace (framed [base])).1, [], (s.replace (framed [base])).2) := by
    unfold opened
    rw [if_neg (by rw [hb.1]; exact hm), if_neg (by simp [hl]), if_pos (.inl (framed_zero.2 hne)), hb1]
  rw [HO]
  have hpl := h.lt
  have HR := Lib.hid (fun W h => read_on p s W h hl)
  obtain ⟨r, hp⟩ := recs_spec s.b
  have HS := Lib.hid (fun A c W hb hc => scan_any A s.b.length c s.b W hb (by omega) hc hp)
  rw [hne] at HS
  have hbl := hb.1
  have HF := Lib.hid (fun A n c W h => framed_any A n c [base] W h (fun x hx => by simp at hx; rw [hx, hbl]; omega) (by rw [framed_one]; omega))
  have HP := Lib.hid (fun A c W h hb => replace_any p s A (framed [base]).length c (framed [base]) W h hb)
  generalize s.replace (framed [base]) = rr at HP ⊢
  obtain ⟨s2, er⟩ := rr
  generalize (framed [base]).length = K at HF HP
  obtain ⟨N, hN⟩ : ∃ N, s.b.length = N := ⟨_, rfl⟩
  rw [hN] at HR HS
  have HBL := Lib.hid hbl
  clear hp hl hb1 HO hne hN hbl
  by_cases he : er = 0
  · subst he
    rw [if_pos rfl]
    go_enter Try.func29, Try.ntmps29
    go_wp2_with (first
      | (go_at_call 38; refine (HR.out _ h).mono ?_; rintro e w1 ⟨A1, c1, rfl, hO1, hb1⟩)
      | (go_at_call 40; refine (HS.out A1 c1 _ hO1.bs hO1.room).mono ?_; rintro e w2 ⟨A2, c2, rfl, hrec, hb2⟩; have hT2 := (h.below hb1).below hb2)
      | (go_at_call 27; refine (clone_any B m d base _ ((hb.below hb1).below hb2) (by omega)).mono ?_; rintro e w3 ⟨A3, c3, rfl, hO3, hb3⟩; have hT3 := (hT2.below hb3).alloc (.cells #[.slice A3 m c3] 22); have hLit : Rws (w3.alloc (.cells #[.slice A3 m c3] 22)) (some ⟨w3.heap.size, 0, none⟩) 1 [base] := (by have hB3 := hO3.bs; have hR3 := hO3.room; rw [← HBL.out] at hB3 hR3 ⊢; exact Rws.lit hB3 hR3))
      | (go_at_call 41; refine (HF.out _ _ _ _ hLit).mono ?_; rintro e w4 ⟨A4, c4, rfl, hO4, hb4⟩; have hT4 := hT3.below hb4)
      | (go_at_call 7; refine (HP.out A4 c4 _ hT4 hO4.bs).mono ?_; rintro e w5 ⟨rfl, ht5⟩))
    have hbw3 : Below w.heap.size w w3 := chain (chain hb1 hb2) hb3
    have hbw4 : Below w.heap.size w w4 := (bl_alloc hbw3 _).trans (hb4.mono (bl_alloc hbw3 _).size)
    have hg5 : w.grownBy w5 (some p) := only_trans (only_of hbw4 _) ht5.only
    have hgp : w3.heap.size ≠ p := by have := hbw3.size; omega
    have hws5 := (hLit.below hb4).only hT4 ht5.only (fun b o e => by injection e with e; injection e with e; rw [← e]; exact hgp)
    obtain ⟨b', o', A5, c5, x', e5, hx', hc5, hB5, _⟩ := hws5.at_ (j := 0) (by omega)
    injection e5 with e5
    injection e5 with e5 e6
    subst e5 e6
    obtain rfl : base = x' := by simpa using hx'
    rw [Nat.zero_add] at hc5
    have ne3 := World.new_ne w5 _ hc5
    have hgl : w3.heap.size < w5.heap.size := cell_lt hc5
    have hT5 := ht5.tape
    clear HR HS HF HP hx' hrec ht5 hT4 hT3 hT2 hb1 hb2 hb3 hb4 hO1 hO3 hO4 hLit hbw3 hbw4
    go_region
    go_wp2
    refine bodyPost_ret (results_4 rfl _ _ _) rfl ?_
    exact opened_ok (xs := []) hT5 hg5 hws5 hB5 (fun h => absurd h (by simp))
  · have he1 : ((er : Int) != 0) = true := by rw [bne_iff_ne]; omega
    rw [if_neg he]
    go_enter Try.func29, Try.ntmps29
    go_wp2_with (first
      | (go_at_call 38; refine (HR.out _ h).mono ?_; rintro e w1 ⟨A1, c1, rfl, hO1, hb1⟩)
      | (go_at_call 40; refine (HS.out A1 c1 _ hO1.bs hO1.room).mono ?_; rintro e w2 ⟨A2, c2, rfl, hrec, hb2⟩; have hT2 := (h.below hb1).below hb2)
      | (go_at_call 27; refine (clone_any B m d base _ ((hb.below hb1).below hb2) (by omega)).mono ?_; rintro e w3 ⟨A3, c3, rfl, hO3, hb3⟩; have hT3 := (hT2.below hb3).alloc (.cells #[.slice A3 m c3] 22); have hLit : Rws (w3.alloc (.cells #[.slice A3 m c3] 22)) (some ⟨w3.heap.size, 0, none⟩) 1 [base] := (by have hB3 := hO3.bs; have hR3 := hO3.room; rw [← HBL.out] at hB3 hR3 ⊢; exact Rws.lit hB3 hR3))
      | (go_at_call 41; refine (HF.out _ _ _ _ hLit).mono ?_; rintro e w4 ⟨A4, c4, rfl, hO4, hb4⟩; have hT4 := hT3.below hb4)
      | (go_at_call 7; refine (HP.out A4 c4 _ hT4 hO4.bs).mono ?_; rintro e w5 ⟨rfl, ht5⟩))
    have hbw3 : Below w.heap.size w w3 := chain (chain hb1 hb2) hb3
    have hbw4 : Below w.heap.size w w4 := (bl_alloc hbw3 _).trans (hb4.mono (bl_alloc hbw3 _).size)
    refine bodyPost_ret (results_4 rfl _ _ _) rfl ?_
    exact ⟨ht5.tape, only_trans (only_of hbw4 _) ht5.only, .inr ⟨he, rfl⟩⟩
/-- journal.Open, whatever is on the tape. -/
theorem open_any (p : Nat) (s : TS) (B : Option Addr) (m d : Nat) (base : List UInt8) (w : World) (h : TapeAt w p s) (hb : Bs w B m base) (hs : s.b.length ≤ 1000000) :
    Calls Try.prog 29 #[.pointer (some ⟨p, 0, none⟩), .slice B m d] w (Opened w p (opened s base)) := by
  by_cases hm : 60000 < m
  · exact open_long p s B m d base w h hb hm
  · cases hl : s.lost with
    | true => exact open_lost p s B m d base w h hb hm hl
    | false =>
      by_cases hne : recs s.b = []
      · exact open_empty p s B m d base w h hb hm hl hs hne
      · by_cases hr : (framed (recs s.b)).length < s.b.length
        · exact open_more p s B m d base w h hb hm hl hs hne hr
        · exact open_same p s B m d base w h hb hm hl hs (fun h => h.elim (fun h => hne (framed_zero.1 h)) hr)
end Go.Proofs.Ytiheeajepnpejaa
