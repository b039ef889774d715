/- Sync, Replace, Fuse, Clone and Restart of the package tape, walked. -/
import Derived.Test.YtiheeajepnpejaaTapA
namespace Go.Proofs.Ytiheeajepnpejaa
open Go.RowKit TapM
/-- Bytes never lie in a tape's own block. -/
theorem Bs.ne_tape {w : World} {B A : Option Addr} {m k c p : Nat} {l : List UInt8} {cap safe fuse : Int} {lost : Bool} (h : Bs w B m l) (hC : Cells w p 57 (tc cap (.slice A k c) safe fuse lost)) :
    ∀ b o, B = some ⟨b, o, none⟩ → 0 < m → b ≠ p := by
  intro b o hB hm hbp
  subst hB hbp
  obtain ⟨b', o', e, hc⟩ := h.at_ hm
  injection e with e
  injection e with e1 e2
  subst e1 e2
  rw [hC.cell, Nat.add_zero] at hc
  obtain ⟨x, hx⟩ : ∃ x : Int, (tc cap (.slice A k c) safe fuse lost)[o]? = some (.int .u8 x) := ⟨_, hc⟩
  clear hc h
  unfold tc at hx
  rcases o with _ | _ | _ | _ | _ | o <;> simp at hx
theorem sync_nil (w : World) : Calls Try.prog 34 #[.pointer none] w fun e w' => e = .returned (.int .i64 1) ∧ w = w' := by
  go_enter Try.func34, Try.ntmps34
  go_wp2_with (go_at_call 25; refine (gone_nil _).mono ?_; rintro e w' ⟨rfl, rfl⟩)
  go_ret
  exact ⟨rfl, rfl⟩
theorem sync_any (p : Nat) (s : TS) (w : World) (h : TapeAt w p s) :
    Calls Try.prog 34 #[.pointer (some ⟨p, 0, none⟩)] w fun e w' => e = .returned (.int .i64 (s.sync.2 : Nat)) ∧ Turned w w' p s.sync.1 := by
  have hok2 := h.ok.sync
  obtain ⟨A, c, hC, ho⟩ := h.open_
  have hf0 := h.ok.f0
  have hf1 := h.ok.f1
  have h1 : w.cell? ⟨p, 1, none⟩ = some (.slice A s.b.length c) := hC.cell 1
  cases hlost : s.lost with
  | true =>
    rw [sync_lost hlost]
    rw [hlost] at hC
    clear hlost
    go_enter Try.func34, Try.ntmps34
    go_wp2_with (go_at_call 25; refine (gone_lost _ hC).mono ?_; rintro e w' ⟨rfl, rfl⟩)
    go_ret
    exact ⟨rfl, Turned.stay h⟩
  | false =>
    have hC0 := hC
    rw [hlost] at hC
    have HL := Lib.hid hlost
    by_cases hz : s.fuse = 0
    · rw [sync_burn hlost hz] at hok2 ⊢
      rw [hz] at hC
      have HZ := Lib.hid hz
      clear hlost hz
      go_enter Try.func34, Try.ntmps34
      go_wp2_with (first
        | (go_at_call 25; refine (gone_on _ hC).mono ?_; rintro e w' ⟨rfl, rfl⟩)
        | (go_at_call 26; refine (burns_yes _ hC).mono ?_; rintro e w4 ⟨rfl, hg4, hC4⟩))
      go_ret
      exact ⟨rfl, Turned.same (A := A) (c := c) hC ho h1 hok2 hg4 (by show Cells _ _ _ (tc _ (.slice A s.b.length c) _ s.fuse true); rw [HZ.out]; exact hC4)⟩
    · rw [sync_ok hlost hz] at hok2 ⊢
      clear hlost
      go_enter Try.func34, Try.ntmps34
      go_wp2_with (first
        | (go_at_call 25; refine (gone_on _ hC).mono ?_; rintro e w' ⟨rfl, rfl⟩)
        | (go_at_call 26; refine (burns_no _ hC hz hf0 hf1).mono ?_; rintro e w4 ⟨rfl, hg4, hC4⟩; have k1 : w4.cell? ⟨p, 1, none⟩ = some (.slice A s.b.length c) := hC4.cell 1; have k2 := hC4.cell 2; have k3 := hC4.free 2))
      go_ret
      exact ⟨rfl, Turned.same (A := A) (c := c) hC ho h1 hok2 (only_store hg4 _ _) (by show Cells _ _ _ (tc _ (.slice A s.b.length c) s.b.length (dec s.fuse) s.lost); rw [HL.out]; exact hC4.store 2 _)⟩
theorem replace_nil (B : Option Addr) (m d : Nat) (w : World) : Calls Try.prog 7 #[.pointer none, .slice B m d] w fun e w' => e = .returned (.int .i64 1) ∧ w = w' := by
  go_enter Try.func7, Try.ntmps7
  go_wp2_with (go_at_call 25; refine (gone_nil _).mono ?_; rintro e w' ⟨rfl, rfl⟩)
  go_ret
  exact ⟨rfl, rfl⟩
set_option maxHeartbeats 800000 in
theorem replace_any (p : Nat) (s : TS) (B : Option Addr) (m d : Nat) (l : List UInt8) (w : World) (h : TapeAt w p s) (hl : Bs w B m l) :
    Calls Try.prog 7 #[.pointer (some ⟨p, 0, none⟩), .slice B m d] w fun e w' => e = .returned (.int .i64 ((s.replace l).2 : Nat)) ∧ Turned w w' p (s.replace l).1 := by
  have hok2 := h.ok.replace l
  obtain ⟨A, c, hC, ho⟩ := h.open_
  have hcc := h.ok.cc
  have hf0 := h.ok.f0
  have hf1 := h.ok.f1
  have hm := hl.1
  subst hm
  have h0 : w.cell? ⟨p, 0, none⟩ = some (.int .i64 (s.cap : Int)) := hC.cell 0
  have h1 : w.cell? ⟨p, 1, none⟩ = some (.slice A s.b.length c) := hC.cell 1
  cases hlost : s.lost with
  | true =>
    rw [replace_lost hlost]
    rw [hlost] at hC
    clear hlost
    go_enter Try.func7, Try.ntmps7
    go_wp2_with (go_at_call 25; refine (gone_lost _ hC).mono ?_; rintro e w' ⟨rfl, rfl⟩)
    go_ret
    exact ⟨rfl, Turned.stay h⟩
  | false =>
    rw [hlost] at hC
    have HL := Lib.hid hlost
    by_cases hf : s.cap < l.length
    · rw [replace_full hlost hf]
      clear hlost
      go_enter Try.func7, Try.ntmps7
      go_wp2_with (go_at_call 25; refine (gone_on _ hC).mono ?_; rintro e w' ⟨rfl, rfl⟩)
      go_ret
      exact ⟨rfl, Turned.stay h⟩
    · by_cases hz : s.fuse = 0
      · rw [replace_burn hlost hf hz] at hok2 ⊢
        rw [hz] at hC
        have HZ := Lib.hid hz
        clear hlost hz
        go_enter Try.func7, Try.ntmps7
        go_wp2_with (first
          | (go_at_call 25; refine (gone_on _ hC).mono ?_; rintro e w' ⟨rfl, rfl⟩)
          | (go_at_call 26; refine (burns_yes _ hC).mono ?_; rintro e w4 ⟨rfl, hg4, hC4⟩))
        go_ret
        exact ⟨rfl, Turned.same (A := A) (c := c) hC ho h1 hok2 hg4 (by show Cells _ _ _ (tc _ (.slice A s.b.length c) _ s.fuse true); rw [HZ.out]; exact hC4)⟩
      · rw [replace_ok hlost hf hz] at hok2 ⊢
        clear hlost
        go_enter Try.func7, Try.ntmps7
        go_wp2_with (first
          | (go_at_call 25; refine (gone_on _ hC).mono ?_; rintro e w' ⟨rfl, rfl⟩)
          | (go_at_call 26; refine (burns_no _ hC hz hf0 hf1).mono ?_; rintro e w4 ⟨rfl, hg4, hC4⟩)
          | (go_at_call 27; refine (clone_any B l.length d l _ (hl.only hg4 (hl.ne_tape hC)) (by omega)).mono ?_; rintro e w5 ⟨A2, c2, rfl, hown2, hb5⟩; have hC5 := hC4.below hb5; have k1 := hC5.cell 1; have k2 := hC5.cell 2; have f1 := hC5.free 1; have f2 := hC5.free 2))
        go_ret
        have hg5 : w5.grownBy ((w5.setCell ⟨p, 1, none⟩ (.slice A2 l.length c2)).setCell ⟨p, 2, none⟩ (.int .i64 (l.length : Int))) (some p) := only_store (only_store (only_refl w5 _) _ _) _ _
        exact ⟨rfl, Turned.new (A := A2) (c := c2) hC.lt ((hown2.grown hg5 hC5 tape_ne).mono hg4.size) hok2 (only_trans (only_below hg4 hb5) hg5) (by show Cells _ _ _ (tc _ (.slice A2 l.length c2) l.length (dec s.fuse) s.lost); rw [HL.out]; exact (hC5.store 1 _).store 2 _)⟩
theorem fuse_nil (n : Int) (w : World) : Calls Try.prog 18 #[.pointer none, .int .i64 n] w fun e w' => e = .returned (.int .i64 1) ∧ w = w' := by
  go_enter Try.func18, Try.ntmps18
  go_wp2_with (go_at_call 25; refine (gone_nil _).mono ?_; rintro e w' ⟨rfl, rfl⟩)
  go_ret
  exact ⟨rfl, rfl⟩
theorem fuse_any (p : Nat) (s : TS) (n : Int) (w : World) (h : TapeAt w p s) (hn : n ≤ 9223372036854775807) :
    Calls Try.prog 18 #[.pointer (some ⟨p, 0, none⟩), .int .i64 n] w fun e w' => e = .returned (.int .i64 ((s.arm n).2 : Nat)) ∧ Turned w w' p (s.arm n).1 := by
  have hok2 := h.ok.arm hn
  obtain ⟨A, c, hC, ho⟩ := h.open_
  have h1 : w.cell? ⟨p, 1, none⟩ = some (.slice A s.b.length c) := hC.cell 1
  have h3 : w.cell? ⟨p, 3, none⟩ = some (.int .i64 s.fuse) := hC.cell 3
  have f3 := hC.free 3
  cases hlost : s.lost with
  | true =>
    rw [arm_lost hlost]
    rw [hlost] at hC
    clear hlost
    go_enter Try.func18, Try.ntmps18
    go_wp2_with (go_at_call 25; refine (gone_lost _ hC).mono ?_; rintro e w' ⟨rfl, rfl⟩)
    go_ret
    exact ⟨rfl, Turned.stay h⟩
  | false =>
    have hC0 := hC
    rw [hlost] at hC
    by_cases hz : n < 0
    · rw [arm_arg hlost hz]
      clear hlost
      go_enter Try.func18, Try.ntmps18
      go_wp2_with (go_at_call 25; refine (gone_on _ hC).mono ?_; rintro e w' ⟨rfl, rfl⟩)
      go_ret
      exact ⟨rfl, Turned.stay h⟩
    · rw [arm_ok hlost hz] at hok2 ⊢
      clear hlost
      go_enter Try.func18, Try.ntmps18
      go_wp2_with (go_at_call 25; refine (gone_on _ hC).mono ?_; rintro e w' ⟨rfl, rfl⟩)
      go_ret
      exact ⟨rfl, Turned.same (A := A) (c := c) hC0 ho h1 hok2 (only_store (only_refl w _) _ _) (hC0.store 3 _)⟩
end Go.Proofs.Ytiheeajepnpejaa
