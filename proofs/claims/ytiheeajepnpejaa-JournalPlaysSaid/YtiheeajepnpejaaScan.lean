/- frame.Scan of both packages, walked: all frames that stand at the head, and how many bytes they take. -/
import Derived.Test.YtiheeajepnpejaaFrmN
import Derived.Test.YtiheeajepnpejaaRecs
namespace Go.Proofs.Ytiheeajepnpejaa
open Go.RowKit FrameM
theorem first_framed {xs : List (List UInt8)} {r : List UInt8} (h : ∀ x ∈ xs, x.length ≤ 60000) (hr : FrameM.first r = none) : FrameM.first (framed xs ++ r) = xs.head? := by
  cases xs with
  | nil => rw [framed_nil, List.nil_append, hr]; rfl
  | cons x xs => rw [framed_cons, List.append_assoc, first_frame (h x (by simp))]; rfl
theorem Parse.here {b r : List UInt8} {xs done todo : List (List UInt8)} (h : Parse b xs r) (hx : xs = done ++ todo) : (framed done).length ≤ b.length ∧ FrameM.first (b.drop (framed done).length) = todo.head? := by
  obtain ⟨h1, h2, h3⟩ := h
  subst hx
  rw [framed_append, List.append_assoc] at h2
  refine ⟨by rw [h2, List.length_append]; omega, ?_⟩
  rw [h2, List.drop_left]
  exact first_framed (fun x hx => h1 x (by simp [hx])) h3
theorem Parse.next {b r x : List UInt8} {xs done todo : List (List UInt8)} (h : Parse b xs r) (hx : xs = done ++ x :: todo) :
    xs = (done ++ [x]) ++ todo ∧ (framed (done ++ [x])).length = (framed done).length + (8 + x.length) ∧ (framed done).length + (8 + x.length) ≤ b.length ∧ done.length < b.length := by
  have h0 : xs = (done ++ [x]) ++ todo := by rw [hx]; simp
  have h1 : (framed (done ++ [x])).length = (framed done).length + (8 + x.length) := by rw [framed_snoc, List.length_append, frame_length]; omega
  have h2 := (Parse.here h h0).1
  have h3 := framed_length_le done
  exact ⟨h0, h1, by omega, by omega⟩
theorem Bs.tail {w : World} {b o n : Nat} {l : List UInt8} (h : Bs w (some ⟨b, o, none⟩) n l) {k : Nat} (hk : k ≤ n) (A : Option Addr) (hA : k < n → A = some ⟨b, o + k, none⟩) : Bs w A (n - k) (l.drop k) := by
  by_cases hkn : k < n
  · have := h.cut hk (n - k) (by omega) (fun _ => ⟨b, o, rfl⟩) A (fun b' o' e _ => by injection e with e; injection e with e1 e2; rw [hA hkn, e1, e2])
    rw [List.take_of_length_le (by rw [List.length_drop, h.1]; omega)] at this
    exact this
  · have e : k = n := by omega
    subst e
    rw [List.drop_of_length_le (by rw [h.1]; omega), Nat.sub_self]
    exact Bs.nil _ _
/-- frame.first, whatever bytes, in one word. -/
theorem first_any (A : Option Addr) (n c : Nat) (l : List UInt8) (w : World) (hl : Bs w A n l) (hm : n ≤ 1000000) (hc : n ≤ c) :
    Calls Try.prog 49 #[.slice A n c] w fun e w' => ∃ A2 c2 y, e = .returned (.tuple #[.slice A2 y.length c2, .bool (FrameM.first l).isSome]) ∧ (∀ x, FrameM.first l = some x → y = x) ∧ Own w' w.heap.size (.slice A2 y.length c2) y ∧ Below w.heap.size w w' := by
  cases hf : FrameM.first l with
  | none =>
    exact (first_none A n c l w hl hm hc hf).mono fun e w' ⟨he, hb⟩ => ⟨none, 0, [], he, (fun _ e => by cases e), Own.nil _ _, hb⟩
  | some x =>
    exact (first_yes A n c l w hl hm hc hf).mono fun e w' ⟨A2, c2, he, ho, hb⟩ => ⟨A2, c2, x, he, (fun _ e => by injection e), ho, hb⟩
set_option maxHeartbeats 800000 in
theorem scan_any (A : Option Addr) (n c : Nat) (l : List UInt8) (w : World) (hl : Bs w A n l) (hm : n ≤ 1000000) (hc : n ≤ c) {xs : List (List UInt8)} {r : List UInt8} (hp : Parse l xs r) :
    Calls Try.prog 40 #[.slice A n c] w fun e w' => ∃ A2 c2, e = .returned (.tuple #[.slice A2 xs.length c2, .int .i64 ((framed xs).length : Nat)]) ∧ Recs w' w.heap.size (.slice A2 xs.length c2) xs ∧ Below w.heap.size w w' := by
  have h0 := (Parse.here hp (done := []) (todo := xs) rfl).2
  rw [framed_nil, List.length_nil, List.drop_zero] at h0
  have HF := Lib.hid (first_any A n c l w hl hm hc)
  rw [h0] at HF
  have HP := Lib.hid hp
  clear hp h0
  go_enter Try.func40, Try.ntmps40
  go_wp2_with (go_at_call 49; refine HF.out.mono ?_; rintro e w1 ⟨A1, c1, y1, rfl, hy1, hown1, hb1⟩)
  go_loopw [4, 5, 6, 7] (fun v4 v5 v6 v7 wr => ∃ (done todo : List (List UInt8)) (A4 : Option Addr) (c4 : Nat) (k : Nat) (A6 : Option Addr) (c6 : Nat) (y : List UInt8), Hid (xs = done ++ todo) ∧ Hid ((framed done).length = k) ∧ v4 = .slice A4 done.length c4 ∧ v5 = .int .i64 (k : Nat) ∧ v6 = .slice A6 y.length c6 ∧ v7 = .bool todo.head?.isSome ∧ Hid (∀ x, todo.head? = some x → y = x) ∧ Recs wr w.heap.size (.slice A4 done.length c4) done ∧ Own wr w.heap.size (.slice A6 y.length c6) y ∧ Below w.heap.size w wr) (fun _ v5 _ _ _ => n + 1 - (intOf v5).toNat)
  case atStart => exact ⟨[], xs, none, 0, 0, A1, c1, y1, rfl, rfl, rfl, rfl, rfl, rfl, hy1, Recs.nil _ _, hown1, hb1⟩
  case round =>
    obtain ⟨done, todo, A4, c4, k, A6, c6, y, hx, hk, rfl, rfl, rfl, rfl, hy, hrec, hown, hbel⟩ := hrel
    cases todo with
    | nil =>
      have hx' := hx.out
      rw [List.append_nil] at hx'
      have hk' := hk.out
      rw [← hx'] at hk' hrec
      go_wp2
      go_ret2
      exact ⟨A4, c4, by rw [hk', hx']; rfl, hrec, hbel⟩
    | cons x t =>
      obtain rfl : y = x := hy.out x rfl
      have hnx := Parse.next HP.out hx.out
      have hnh := Parse.here HP.out hnx.1
      rw [hnx.2.1, hk.out] at hnh
      have hk2 := hnx.2.1
      rw [hk.out] at hk2
      have hle := hnx.2.2
      rw [hk.out, hl.1] at hle
      rw [hl.1] at hnh
      have HX := Lib.hid hnx.1
      have HK := Lib.hid hk2
      have HN := Lib.hid hnh.2
      have hle1 := hnh.1
      obtain ⟨hle2, hle3⟩ := hle
      clear hnx hk2 hnh
      obtain ⟨b, o, rfl, _⟩ := hl.2.resolve_left (by omega)
      have i1 : IntKind.i64.wrap ((k : Int) + (8 + (y.length : Int))) = ((k + (8 + y.length) : Nat) : Int) := by rw [IntWalk.i64_in _ (by omega)]; omega
      have i2 : IntKind.i64.wrap (8 + (y.length : Int)) = 8 + (y.length : Int) := IntWalk.i64_in _ (by omega)
      generalize hK : k + (8 + y.length) = K at *
      have i3 : (K : Int) ≤ (n : Int) := by omega
      have hcell : ∀ w2 : World, (w2.alloc (.cells #[Value.slice A6 y.length c6] 22)).cell? ⟨w2.heap.size, 0, none⟩ = some (Value.slice A6 y.length c6) := fun w2 => cell_of_row _ _ 0 _ _ (0, 0) (heap_alloc_new w2 _)
      by_cases hcK : K = c
      · subst hcK
        have hnk : n - K = 0 := by omega
        go_wp2_with (first
          | (at_builtin; apply wpList_append_recs (hrec.alloc _) (hown.alloc _) (hcell _) (.tmp 21) (.tmp 23) rfl rfl rfl rfl; (case hsz => omega); (case hbase => (have := hbel.size; simp; omega)); intro A2 c2 w2 hrec2 hg; have hb2 : Below w.heap.size w w2 := (hbel.alloc hbel.size _).grown hg (by have := hbel.size; simp; omega) fun k hk => (hrec.at_block k hk).1)
          | (go_at_call 49; refine (first_any (some ⟨b, o, none⟩) 0 0 (l.drop K) w2 (hnk ▸ Bs.tail (hl.below hb2) hle1 (some ⟨b, o, none⟩) (fun h => absurd h (by omega))) (by omega) (Nat.le_refl 0)).mono ?_; rintro e w3 ⟨A7, c7, y7, rfl, hy7, hown7, hb7⟩; rw [HN.out] at hy7 ⊢))
        refine ⟨⟨done ++ [y], t, A2, c2, K, A7, c7, y7, HX, HK, by rw [List.length_append]; rfl, rfl, rfl, rfl, hy7, by rw [List.length_append]; exact hrec2.below hb7, hown7.mono hb2.size, hb2.trans (hb7.mono hb2.size)⟩, ?_⟩
        (simp [intOf]; omega)
      · go_wp2_with (first
          | (at_builtin; apply wpList_append_recs (hrec.alloc _) (hown.alloc _) (hcell _) (.tmp 21) (.tmp 23) rfl rfl rfl rfl; (case hsz => omega); (case hbase => (have := hbel.size; simp; omega)); intro A2 c2 w2 hrec2 hg; have hb2 : Below w.heap.size w w2 := (hbel.alloc hbel.size _).grown hg (by have := hbel.size; simp; omega) fun k hk => (hrec.at_block k hk).1)
          | (go_at_call 49; refine (first_any (some ⟨b, o + K, none⟩) (n - K) (c - K) (l.drop K) w2 (Bs.tail (hl.below hb2) hle1 (some ⟨b, o + K, none⟩) (fun _ => rfl)) (by omega) (by omega)).mono ?_; rintro e w3 ⟨A7, c7, y7, rfl, hy7, hown7, hb7⟩; rw [HN.out] at hy7 ⊢))
        refine ⟨⟨done ++ [y], t, A2, c2, K, A7, c7, y7, HX, HK, by rw [List.length_append]; rfl, rfl, rfl, rfl, hy7, by rw [List.length_append]; exact hrec2.below hb7, hown7.mono hb2.size, hb2.trans (hb7.mono hb2.size)⟩, ?_⟩
        (simp [intOf]; omega)
set_option maxHeartbeats 800000 in
theorem refscan_any (A : Option Addr) (n c : Nat) (l : List UInt8) (w : World) (hl : Bs w A n l) (hm : n ≤ 1000000) (hc : n ≤ c) {xs : List (List UInt8)} {r : List UInt8} (hp : Parse l xs r) :
    Calls Try.prog 42 #[.slice A n c] w fun e w' => ∃ A2 c2, e = .returned (.tuple #[.slice A2 xs.length c2, .int .i64 ((framed xs).length : Nat)]) ∧ Recs w' w.heap.size (.slice A2 xs.length c2) xs ∧ Below w.heap.size w w' := by
  have HP := Lib.hid hp
  clear hp
  go_enter Try.func42, Try.ntmps42
  go_wp2
  go_loopw [4, 5] (fun v4 v5 wr => ∃ (done todo : List (List UInt8)) (A4 : Option Addr) (c4 : Nat) (k : Nat), Hid (xs = done ++ todo) ∧ Hid ((framed done).length = k) ∧ k ≤ n ∧ v4 = .slice A4 done.length c4 ∧ v5 = .int .i64 (k : Nat) ∧ Recs wr w.heap.size (.slice A4 done.length c4) done ∧ Below w.heap.size w wr) (fun _ v5 _ => n + 1 - (intOf v5).toNat)
  case atStart => exact ⟨[], xs, none, 0, 0, rfl, rfl, by omega, rfl, rfl, Recs.nil _ _, Below.refl _ _⟩
  case round =>
    obtain ⟨done, todo, A4, c4, k, hx, hk, hkn, rfl, rfl, hrec, hbel⟩ := hrel
    have hh := (Parse.here HP.out hx.out).2
    rw [hk.out] at hh
    by_cases hkn' : k < n
    · obtain ⟨b, o, rfl, _⟩ := hl.2.resolve_left (by omega)
      have hck : ¬ c = k := by omega
      have HF := Lib.hid (reffirst_any (some ⟨b, o + k, none⟩) (n - k) (c - k) (l.drop k) wr (Bs.tail (hl.below hbel) hkn (some ⟨b, o + k, none⟩) (fun _ => rfl)) (by omega) (by omega))
      rw [hh] at HF
      have i0 : (k : Int) < (n : Int) := by omega
      clear hh
      cases todo with
      | nil =>
        go_wp2_with (go_at_call 50; refine HF.out.mono ?_; rintro e w1 ⟨A1, c1, y, rfl, hy, hown, hb1⟩)
        go_ret2
        have hx' := hx.out
        rw [List.append_nil] at hx'
        have hk' := hk.out
        rw [← hx'] at hk' hrec
        exact ⟨A4, c4, by rw [hk', hx']; rfl, hrec.below (hb1), chain hbel hb1⟩
      | cons x t =>
        have hnx := Parse.next HP.out hx.out
        have hk2 := hnx.2.1
        rw [hk.out] at hk2
        have hle := hnx.2.2
        rw [hk.out, hl.1] at hle
        have HX := Lib.hid hnx.1
        have HK := Lib.hid hk2
        obtain ⟨hle2, hle3⟩ := hle
        clear hnx hk2
        have i1 : IntKind.i64.wrap ((k : Int) + 8 + (x.length : Int)) = ((k + (8 + x.length) : Nat) : Int) := by rw [IntWalk.i64_in _ (by omega)]; omega
        have i2 : IntKind.i64.wrap ((k : Int) + 8) = (k : Int) + 8 := IntWalk.i64_in _ (by omega)
        generalize hK : k + (8 + x.length) = K at *
        have hcell : ∀ (w2 : World) (A6 : Option Addr) (c6 : Nat), (w2.alloc (.cells #[Value.slice A6 x.length c6] 22)).cell? ⟨w2.heap.size, 0, none⟩ = some (Value.slice A6 x.length c6) := fun w2 A6 c6 => cell_of_row _ _ 0 _ _ (0, 0) (heap_alloc_new w2 _)
        go_wp2_with (first
          | (go_at_call 50; refine HF.out.mono ?_; rintro e w1 ⟨A1, c1, y, rfl, hy, hown, hb1⟩; obtain rfl : y = x := hy x rfl)
          | (at_builtin; apply wpList_append_recs ((hrec.below hb1).alloc _) ((hown.mono hbel.size).alloc _) (hcell _ _ _) (.tmp 23) (.tmp 25) rfl rfl rfl rfl; (case hsz => omega); (case hbase => (have := hbel.size; have := hb1.size; simp; omega)); intro A2 c2 w2 hrec2 hg; have hbw := chain hbel hb1; have hb2 : Below w.heap.size w w2 := (hbw.alloc hbw.size _).grown hg (by have := hbw.size; simp; omega) fun k hk => (hrec.at_block k hk).1))
        refine ⟨⟨done ++ [y], t, A2, c2, K, HX, HK, hle2, by rw [List.length_append]; rfl, rfl, by rw [List.length_append]; exact hrec2, hb2⟩, ?_⟩
        (simp [intOf]; omega)
    · have i0 : ¬ (k : Int) < (n : Int) := by omega
      have ht : todo = [] := by
        rw [List.drop_of_length_le (by rw [hl.1]; omega), first_nil] at hh
        cases todo with
        | nil => rfl
        | cons x t => cases hh
      subst ht
      clear hh
      go_wp2
      go_ret2
      have hx' := hx.out
      rw [List.append_nil] at hx'
      have hk' := hk.out
      rw [← hx'] at hk' hrec
      exact ⟨A4, c4, by rw [hk', hx']; rfl, hrec, hbel⟩
end Go.Proofs.Ytiheeajepnpejaa
