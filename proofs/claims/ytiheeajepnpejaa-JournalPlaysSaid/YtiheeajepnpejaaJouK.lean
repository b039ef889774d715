/- The law JournalPlays of layer 18, walked: it answers true, whatever capacity, whatever base, whatever befalls the journal. -/
import Derived.Test.YtiheeajepnpejaaJouG
import Derived.Test.YtiheeajepnpejaaHeldX
import Derived.Deep.CutBlock
import Derived.Deep.DrawnRows
namespace Go.Proofs.Ytiheeajepnpejaa
open Go.RowKit TapM FrameM JouM
attribute [local go_sem ↓] Go.wp_at_zero Go.wp_at_succ
/-- What the loop keeps: a journal or none on the tape at p; the reference's journal in block r. -/
def BothJ (wr : World) (B p r : Nat) (v : Value) (s : TS) (n : Nat) : Prop :=
  TapeAt wr p s ∧ JOr wr B v p n ∧ ∃ (A2 : Option Addr) (c2 : Nat), Cells wr r 36 #[.int .i64 (s.cap : Int), .slice A2 s.b.length c2, .int .i64 (s.safe : Int), .int .i64 s.fuse, .bool s.lost, .int .i64 (n : Int)] ∧ Own wr B (.slice A2 s.b.length c2) s.b
theorem opens_new (B p cap : Nat) (X : Option Addr) (m d : Nat) (base : List UInt8) (w : World) (hT : TapeAt w p (TS.new cap)) (hb : Bs w X m base) (hB : B ≤ w.heap.size) :
    Calls Try.prog 10 #[.pointer (some ⟨p, 0, none⟩), .agg #[.int .i64 (cap : Int), .slice none 0 0, .int .i64 0, .int .i64 (-1), .bool false], .slice X m d] w (OpenedOr w B p (opened (TS.new cap) base).1) :=
  opens_or B p (TS.new cap) none 0 X m d base w hT (Own.nil _ _) hb (by simp [TS.new]) hB
theorem BothJ.below {w w' : World} {B p r N : Nat} {v : Value} {s : TS} (h : BothJ w B p r v s N) (hb : Below w.heap.size w w') : BothJ w' B p r v s N := by
  obtain ⟨hT, hJ, A2, c2, hR, hO⟩ := h
  exact ⟨hT.below hb, hJ.below hb, A2, c2, hR.below hb, hO.below hb⟩
/-- Behind a store of the reference's journal. -/
theorem both_store {w7 : World} {B p r N : Nat} {v : Value} {s2 : TS} {A3 : Option Addr} {c : Nat} {cs : Array Value} (hT : TapeAt w7 p s2) (hJ : JOr w7 B v p N) (hR : Cells w7 r 36 cs) (hcs : ∃ a0 a1 a2 a3 a4 a5, cs = #[a0, a1, a2, a3, a4, a5]) (hO : Own w7 B (.slice A3 s2.b.length c) s2.b) (hne : p ≠ r) :
    BothJ ((((((w7.setCell ⟨r, 0, none⟩ (.int .i64 (s2.cap : Int))).setCell ⟨r, 1, none⟩ (.slice A3 s2.b.length c)).setCell ⟨r, 2, none⟩ (.int .i64 (s2.safe : Int))).setCell ⟨r, 3, none⟩ (.int .i64 s2.fuse)).setCell ⟨r, 4, none⟩ (.bool s2.lost)).setCell ⟨r, 5, none⟩ (.int .i64 (N : Int))) B p r v s2 N := by
  obtain ⟨a0, a1, a2, a3, a4, a5, rfl⟩ := hcs
  have hg := only_set6 w7 r (.int .i64 (s2.cap : Int)) (.slice A3 s2.b.length c) (.int .i64 (s2.safe : Int)) (.int .i64 s2.fuse) (.bool s2.lost) (.int .i64 (N : Int))
  exact ⟨hT.far hR jref_ne hne hg, hJ.far hg hR, A3, c, hR.set6 _ _ _ _ _ _, hO.grown hg hR jref_ne⟩
/-- Behind a store of the tape of the reference's journal. -/
theorem both_store5 {w7 : World} {B p r N : Nat} {v : Value} {s2 : TS} {A3 : Option Addr} {c : Nat} {a0 a1 a2 a3 a4 : Value} (hT : TapeAt w7 p s2) (hJ : JOr w7 B v p N) (hR : Cells w7 r 36 #[a0, a1, a2, a3, a4, .int .i64 (N : Int)]) (hO : Own w7 B (.slice A3 s2.b.length c) s2.b) (hne : p ≠ r) :
    BothJ (((((w7.setCell ⟨r, 0, none⟩ (.int .i64 (s2.cap : Int))).setCell ⟨r, 1, none⟩ (.slice A3 s2.b.length c)).setCell ⟨r, 2, none⟩ (.int .i64 (s2.safe : Int))).setCell ⟨r, 3, none⟩ (.int .i64 s2.fuse)).setCell ⟨r, 4, none⟩ (.bool s2.lost)) B p r v s2 N := by
  have hg := only_set5 w7 r (.int .i64 (s2.cap : Int)) (.slice A3 s2.b.length c) (.int .i64 (s2.safe : Int)) (.int .i64 s2.fuse) (.bool s2.lost)
  exact ⟨hT.far hR jref_ne hne hg, hJ.far hg hR, A3, c, hR.set5 _ _ _ _ _, hO.grown hg hR jref_ne⟩
theorem jou_apart {w : World} {q p r N : Nat} {cs : Array Value} (hj : JAt w q p N) (hR : Cells w r 36 cs) : r ≠ q := by
  intro e
  subst e
  have e2 := (Option.some.inj (hj.symm.trans hR))
  injection e2 with _ e3
  exact absurd e3 (by decide)
/-- What the loads of the drawn region of the law's Restart read. -/
def Held15 (b o r : Nat) (s : TS) (A2 : Option Addr) (c2 : Nat) (a : TAct) (A' : Option Addr) (c' : Nat) (w : World) : Prop :=
  w.cell? ⟨b, o + 1, none⟩ = some (.slice A' a.l.length c') ∧ w.cell? ⟨b, o + 2, none⟩ = some (.int .i64 a.n) ∧ w.cell? ⟨b, o + 3, none⟩ = some (.int .u8 (a.y.toNat : Int)) ∧
  w.cell? ⟨r, 0, none⟩ = some (.int .i64 (s.cap : Int)) ∧ w.cell? ⟨r, 1, none⟩ = some (.slice A2 s.b.length c2) ∧ w.cell? ⟨r, 2, none⟩ = some (.int .i64 (s.safe : Int)) ∧ w.cell? ⟨r, 3, none⟩ = some (.int .i64 s.fuse) ∧ w.cell? ⟨r, 4, none⟩ = some (.bool s.lost)
theorem Held15.grown {b o r p : Nat} {s : TS} {A2 : Option Addr} {c2 : Nat} {a : TAct} {A' : Option Addr} {c' : Nat} {w w' : World} (h : Held15 b o r s A2 c2 a A' c' w) (hg : w.grownBy w' (some p)) (hb : b ≠ p) (hr : r ≠ p) : Held15 b o r s A2 c2 a A' c' w' := by
  obtain ⟨h1, h2, h3, h4, h5, h6, h7, h8⟩ := h
  have eb : some b ≠ some p := by simpa using hb
  have er : some r ≠ some p := by simpa using hr
  exact ⟨hg.cell h1 eb, hg.cell h2 eb, hg.cell h3 eb, hg.cell h4 er, hg.cell h5 er, hg.cell h6 er, hg.cell h7 er, hg.cell h8 er⟩
theorem few_len {L : List TAct} {n : Nat} (hl : L.length = n) (h : fewB18 L = true) : n ≤ 31 := by
  unfold fewB18 at h
  have := (@of_decide_eq_true _ (Classical.propDecidable _) h).1
  omega
set_option maxRecDepth 100000 in
set_option maxHeartbeats 64000000 in
theorem journalPlays_law (cap : Nat) (X : Option Addr) (m d : Nat) (base : List UInt8) (A : Option Addr) (n c : Nat) (L : List TAct) (w : World) (hcap : cap < 65536) (hb : Bs w X m base) (hL : Acts w A n L) (hn : n ≤ 9223372036854775807) :
    Calls Try.prog 4 #[.int .u16 (cap : Int), .slice X m d, .slice A n c] w fun e w' => e = .returned (.bool true) ∧ Below w.heap.size w w' := by
  have HW := Lib.hid (fun w h => few18_any A n c L w h hn)
  by_cases hF : fewB18 L = true ∧ m ≤ 300
  · obtain ⟨hF, hm⟩ := hF
    have hfew := Lib.hid hF
    rw [hF] at HW
    have hn31 : n ≤ 31 := few_len hL.1 hfew.out
    clear hF
    have HO := Lib.hid (fun p W hT hb hB => opens_new w.heap.size p cap X m d base W hT hb hB)
    have hok0 := (JouM.opened_ok (TS.Ok.new (cap := cap) (by omega)) base).1
    have hcap0 := (JouM.opened_ok (TS.Ok.new (cap := cap) (by omega)) base).2
    generalize (opened (TS.new cap) base).1 = s0 at HO hok0 hcap0
    have HN := Lib.hid (fun w => new_ok cap (by omega) w)
    have hc0 : s0.cap ≤ 65536 := by rw [hcap0]; show cap ≤ 65536; omega
    clear hok0 hcap0
    go_enter Try.func4, Try.ntmps4
    go_wp2_with (first
      | (go_at_call 5; refine (awake18_any _).mono ?_; rintro e w1 ⟨rfl, hb1⟩)
      | (go_at_call 12; refine (HW.out _ (hL.below hb1)).mono ?_; rintro e w2 ⟨rfl, rfl⟩)
      | (go_at_call 6; refine (HN.out _).mono ?_; rintro e w2 ⟨p, rfl, hp, ht, hb2⟩)
      | (go_at_call 8; refine (refnew_any _ _).mono ?_; rintro e w3 ⟨rfl, hb3⟩))
    have hbw3 : Below w.heap.size w w3 := chain (chain hb1 hb2) hb3
    have hwp : w.heap.size ≤ p := Nat.le_trans hb1.size hp
    refine (HO.out p _ (ht.below hb3) (hb.below hbw3) hbw3.size).mono ?_
    rintro e w4 ⟨v, A2, c2, n0, rfl, hn0, hJ, hT, hg, hO⟩
    have hbw4 : Below w.heap.size w w4 := below_only hbw3 hg hwp (ht.below hb3).lt
    have hwr := hbw4.size
    have hB0 : BothJ (w4.alloc (.cells #[.int .i64 (s0.cap : Int), .slice A2 s0.b.length c2, .int .i64 (s0.safe : Int), .int .i64 s0.fuse, .bool s0.lost, .int .i64 (n0 : Int)] 36)) w.heap.size p w4.heap.size v s0 n0 :=
      ⟨hT.alloc _, hJ.alloc _, A2, c2, Cells.new w4 _ _, hO.alloc _⟩
    have hbw5 := bl_alloc hbw4 (.cells #[.int .i64 (s0.cap : Int), .slice A2 s0.b.length c2, .int .i64 (s0.safe : Int), .int .i64 s0.fuse, .bool s0.lost, .int .i64 (n0 : Int)] 36)
    have hpr : p < w4.heap.size := hT.lt
    clear HO HN HW hb1 hb2 hb3 hp ht hbw3 hJ hT hg hO hbw4
    go_wp2_with (fail)
    generalize w4.alloc (.cells #[.int .i64 (s0.cap : Int), .slice A2 s0.b.length c2, .int .i64 (s0.safe : Int), .int .i64 s0.fuse, .bool s0.lost, .int .i64 (n0 : Int)] 36) = w5 at hB0 hbw5 ⊢
    generalize w4.heap.size = r at hB0 hwr hpr ⊢
    go_loopw [9, 11, 12, 13, 14, 50] (fun v9 v11 v12 v13 v14 v50 wr => ∃ (k : Nat) (s : TS) (N : Nat), k ≤ n ∧ v50 = .int .i64 k ∧ v11 = .bool true ∧ N ≤ 1048577 + k ∧ s.cap ≤ 65536 ∧ BothJ wr w.heap.size p r v9 s N ∧ Below w.heap.size w wr) (fun _ _ _ _ _ v50 _ => n - (intOf v50).toNat)
    case atStart => exact ⟨0, s0, n0, by omega, rfl, rfl, by omega, by omega, hB0, hbw5⟩
    case round =>
      obtain ⟨k, s, N, hk, rfl, rfl, hN, hsc, ⟨hT, hJ, A2, c2, hR, hO⟩, hbel⟩ := hrel
      by_cases hkn : k < n
      · have i0 : (k : Int) < (n : Int) := by omega
        obtain ⟨b, o, a, rfl, ha, f0, ⟨A', c', f1, hl, _⟩, f2, f3, hn0, hn1⟩ := hL.at_ hkn
        have g0 := cell_below hbel f0
        have E1 := Lib.hid f1
        have E2 := Lib.hid f2
        have E3 := Lib.hid f3
        clear f0 f1 f2 f3
        have hrp : r ≠ p := by omega
        have hbp : b ≠ p := by have := cell_lt E1.out; omega
        go_upto_block 2 with (fail)
        go_cut [9, 11, 13, 14] (fun s9 s11 s13 s14 wx => ∃ (s2 : TS) (N2 er : Nat), s11 = .bool true ∧ s13 = .int .i64 (er : Int) ∧ s14 = .int .i64 (er : Int) ∧ N2 ≤ 1048577 + (k + 1) ∧ s2.cap ≤ 65536 ∧ BothJ wx w.heap.size p r s9 s2 N2 ∧ Below w.heap.size w wx)
        case first =>
          by_cases h0 : a.kind = 0
          · have k0 : ((a.kind.toNat : Int) == 0) = true := kind_yes h0
            clear h0
            have g1 := cell_below hbel E1.out
            obtain ⟨rfl, rfl⟩ | ⟨q, rfl, hj, hqp, hBq⟩ := hJ
            · go_wp2_with (first
                | (go_at_call 13; refine (write_nil _ _ _ _).mono ?_; rintro e w6 ⟨rfl, rfl⟩)
                | (go_at_call 14; refine (renew_nil _ _ _ _).mono ?_; rintro e w6 ⟨rfl, rfl⟩)
                | (go_at_call 15; refine (jlen_nil _).mono ?_; rintro e w6 ⟨rfl, rfl⟩))
              go_ret
              exact ⟨rfl, hbel⟩
            · focus
                have hqr := jou_apart hj hR
                have HWr := Lib.hid (fun W hT hj hl => write_any p q s N A' a.l.length c' a.l W hT hj hqp hl (by omega))
                have HRw := Lib.hid (fun A3 c3 W ho hl hB => refwrite_any w.heap.size s N A3 c3 A' a.l.length c' a.l W hT.ok ho hl hB (by omega))
                have hnb := Lib.hid (write_bounds s N a.l)
                generalize JouM.write s N a.l = rr at HWr HRw hnb
                obtain ⟨⟨s2, N2⟩, er⟩ := rr
                go_upto_region 22 with (go_at_call 13; refine (HWr.out _ hT hj (hl.below hbel)).mono ?_; rintro e w6 ⟨rfl, hW⟩)
                have hbw6 : Below w.heap.size w w6 := below_two hbel hW.two hwp hBq hbel.size
                have hR6 := Cells.two hR hW.two hrp hqr
                obtain ⟨_, _, hC0, _⟩ := hT.open_
                have hO6 := hO.two hW.two hC0 tape_ne hj jou_ne
                have hl6 := hl.below hbw6
                have HRx := Lib.hid (HRw.out A2 c2 w6.drew hO6.drew (Bs.drew hl6) hbw6.size)
                have g16 := cell_below hbw6 E1.out
                have hJ6 : JOr w6 w.heap.size (.pointer (some ⟨q, 0, none⟩)) p N2 := .inr ⟨q, rfl, hW.jou, hqp, hBq⟩
                have hT6 := hW.tape
                obtain ⟨d0, d1, d2, d3, d4, d5, df⟩ := six hR6
                clear HWr HRw g0 g1 hR hO hT hj hC0 hW
                go_region_with ((go_at_call 16; (with_reducible refine HRx.out.mono ?_); rintro e w7 ⟨A3, c3, rfl, hO7, hb7⟩; unfold refj; have hB7 := draw_way hb7; have hR7 := hR6.below hB7; obtain ⟨z0, z1, z2, z3, z4, z5, zf⟩ := six hR7))
                all_goals go_wp2_with fail
                all_goals go_meet
                all_goals exact ⟨s2, N2, er, rfl, rfl, rfl, by have h1 : N2 ≤ N + 1 := hnb.out.1; omega, by have h2 : s2.cap = s.cap := hnb.out.2; omega, both_store (hT6.below hB7) (hJ6.below hB7) hR7 ⟨_, _, _, _, _, _, rfl⟩ hO7 hrp.symm, below_only (chain hbw6 hB7) (only_set6 w7 r _ _ _ _ _ _) hwr hR7.lt⟩
          · have k0 : ((a.kind.toNat : Int) == 0) = false := kind_no h0
            clear h0
            by_cases h1 : a.kind = 1
            · have k1 : ((a.kind.toNat : Int) == 1) = true := kind_yes h1
              clear h1
              have g1 := cell_below hbel E1.out
              obtain ⟨rfl, rfl⟩ | ⟨q, rfl, hj, hqp, hBq⟩ := hJ
              · go_wp2_with (first
                  | (go_at_call 13; refine (write_nil _ _ _ _).mono ?_; rintro e w6 ⟨rfl, rfl⟩)
                  | (go_at_call 14; refine (renew_nil _ _ _ _).mono ?_; rintro e w6 ⟨rfl, rfl⟩)
                  | (go_at_call 15; refine (jlen_nil _).mono ?_; rintro e w6 ⟨rfl, rfl⟩))
                go_ret
                exact ⟨rfl, hbel⟩
              · focus
                  have hqr := jou_apart hj hR
                  have HWr := Lib.hid (fun W hT hj hl => renew_any p q s N A' a.l.length c' a.l W hT hj hqp hl)
                  have HRw := Lib.hid (fun A3 c3 W ho hl hB => refrenew_any w.heap.size s N A3 c3 A' a.l.length c' a.l W hT.ok ho hl hB)
                  have hnb := Lib.hid (renew_bounds s N a.l)
                  generalize JouM.renew s N a.l = rr at HWr HRw hnb
                  obtain ⟨⟨s2, N2⟩, er⟩ := rr
                  go_upto_region 24 with (go_at_call 14; refine (HWr.out _ hT hj (hl.below hbel)).mono ?_; rintro e w6 ⟨rfl, hW⟩)
                  have hbw6 : Below w.heap.size w w6 := below_two hbel hW.two hwp hBq hbel.size
                  have hR6 := Cells.two hR hW.two hrp hqr
                  obtain ⟨_, _, hC0, _⟩ := hT.open_
                  have hO6 := hO.two hW.two hC0 tape_ne hj jou_ne
                  have hl6 := hl.below hbw6
                  have HRx := Lib.hid (HRw.out A2 c2 w6.drew hO6.drew (Bs.drew hl6) hbw6.size)
                  have g16 := cell_below hbw6 E1.out
                  have hJ6 : JOr w6 w.heap.size (.pointer (some ⟨q, 0, none⟩)) p N2 := .inr ⟨q, rfl, hW.jou, hqp, hBq⟩
                  have hT6 := hW.tape
                  obtain ⟨d0, d1, d2, d3, d4, d5, df⟩ := six hR6
                  clear HWr HRw g0 g1 hR hO hT hj hC0 hW
                  go_region_with ((go_at_call 17; (with_reducible refine HRx.out.mono ?_); rintro e w7 ⟨A3, c3, rfl, hO7, hb7⟩; unfold refj; have hB7 := draw_way hb7; have hR7 := hR6.below hB7; obtain ⟨z0, z1, z2, z3, z4, z5, zf⟩ := six hR7))
                  all_goals go_wp2_with fail
                  all_goals go_meet
                  all_goals exact ⟨s2, N2, er, rfl, rfl, rfl, by have h1 : N2 ≤ N + 1 := hnb.out.1; omega, by have h2 : s2.cap = s.cap := hnb.out.2; omega, both_store (hT6.below hB7) (hJ6.below hB7) hR7 ⟨_, _, _, _, _, _, rfl⟩ hO7 hrp.symm, below_only (chain hbw6 hB7) (only_set6 w7 r _ _ _ _ _ _) hwr hR7.lt⟩
            · have k1 : ((a.kind.toNat : Int) == 1) = false := kind_no h1
              clear h1
              by_cases h2 : a.kind = 2
              · focus
                  have k2 : ((a.kind.toNat : Int) == 2) = true := kind_yes h2
                  clear h2
                  have g2 := cell_below hbel E2.out
                  have HFu := Lib.hid (fun W h => fuse_any p s a.n W h hn1)
                  have HAr := Lib.hid (fun A3 c3 W ho => refarm_any w.heap.size s A3 c3 a.n W ho)
                  have hnb := Lib.hid (arm_cap s a.n)
                  generalize s.arm a.n = rr at HFu HAr hnb
                  obtain ⟨s2, er⟩ := rr
                  go_upto_region 27 with (go_at_call 18; refine (HFu.out _ hT).mono ?_; rintro e w6 ⟨rfl, ht6⟩)
                  have hbw6 : Below w.heap.size w w6 := below_only hbel ht6.only hwp hT.lt
                  have hR6 := hR.grown ht6.only (by simpa using hrp)
                  have hO6 := hO.tape hT ht6.only
                  have hJ6 := hJ.tape ht6.only
                  have hT6 := ht6.tape
                  have HRx := Lib.hid (HAr.out A2 c2 w6.drew hO6.drew)
                  have g26 := cell_below hbw6 E2.out
                  obtain ⟨d0, d1, d2, d3, d4, d5, df⟩ := six hR6
                  clear HFu HAr g0 g2 hR hO hT hJ ht6
                  go_region_with ((go_at_call 19; (with_reducible refine HRx.out.mono ?_); rintro e w7 ⟨A3, c3, rfl, hO7, hb7, _⟩; unfold refv; have hB7 := draw_way hb7; have hR7 := hR6.below hB7; obtain ⟨z0, z1, z2, z3, z4, z5, zf⟩ := six hR7))
                  all_goals go_wp2_with fail
                  all_goals go_meet
                  all_goals exact ⟨s2, N, er, rfl, rfl, rfl, by omega, by have h2 : s2.cap = s.cap := hnb.out; omega, both_store5 (hT6.below hB7) (hJ6.below hB7) hR7 hO7 hrp.symm, below_only (chain hbw6 hB7) (only_set5 w7 r _ _ _ _ _) hwr hR7.lt⟩
              · focus
                  have k2 : ((a.kind.toNat : Int) == 2) = false := kind_no h2
                  clear h2
                  have g2 := cell_below hbel E2.out
                  have g3 := cell_below hbel E3.out
                  have hok := hT.ok.restart a.n a.y
                  have hcs : (s.restart a.n a.y).cap = s.cap := rfl
                  have HRs := Lib.hid (fun W h => restart_any p s a.n a.y W h)
                  have HRr := Lib.hid (fun A3 c3 W ho hB => refrestart_any w.heap.size s A3 c3 a.n a.y W hT.ok ho hB)
                  generalize s.restart a.n a.y = s1 at HRs HRr hok hcs
                  have hb1 : s1.b.length ≤ 1000000 := by have := hok.bc; omega
                  have HOx := Lib.hid (fun A3 c3 W hT ho hb hB => opens_or w.heap.size p s1 A3 c3 A' a.l.length c' a.l W hT ho hb hb1 hB)
                  have hc2 := (JouM.opened_ok hok a.l).2
                  generalize (opened s1 a.l).1 = s2 at HOx hc2
                  have hc3 : s2.cap ≤ 65536 := by omega
                  clear hok hcs hc2 hb1
                  go_upto_region 14 with (fail)
                  have HRs1 := Lib.hid (HRs.out wr.drew hT)
                  clear HRs g0
                  go_cut [69] (fun s69 wx => Turned wr.drew wx p s1)
                  case first =>
                    go_region_with ((go_at_call 20; (with_reducible refine HRs1.out.mono ?_); rintro e w6 ⟨rfl, ht6⟩))
                    all_goals go_wp2_with fail
                    all_goals go_meet
                    all_goals exact ht6
                  case rest =>
                    obtain ⟨w6, rfl⟩ : ∃ w6 : World, w6 = wc := ⟨_, rfl⟩
                    have hg6 : wr.grownBy w6 (some p) := ⟨hcut.only.os, hcut.only.tape, hcut.only.output, hcut.only.size, hcut.only.block⟩
                    have hbw6 : Below w.heap.size w w6 := below_only hbel hg6 hwp hT.lt
                    have hR6 := hR.grown hg6 (by simpa using hrp)
                    have hO6 := hO.tape hT hg6
                    have hT6 := hcut.tape
                    have hl6 := hl.below hbw6
                    have HRx := Lib.hid (HRr.out A2 c2 w6.drew hO6.drew hbw6.size)
                    have g16 := cell_below hbw6 E1.out
                    have g26 := cell_below hbw6 E2.out
                    have g36 := cell_below hbw6 E3.out
                    obtain ⟨d0, d1, d2, d3, d4, d5, df⟩ := six hR6
                    clear HRr g2 g3 hR hO hT hJ hcut hg6 HRs1
                    go_upto_region 15 with (fail)
                    have hS : Held15 b (o + k * 4) r s A2 c2 a A' c' w6.drew := ⟨g16, g26, g36, d0, d1, d2, d3, d4⟩
                    refine region_X (Held15 b (o + k * 4) r s A2 c2 a A' c') (fun j => Nat.ble 20 j) (by kernel_rfl) ?_
                    refine anyX_take 0 (some 71) (v := ?_) rfl rfl (by kernel_rfl) (by kernel_rfl) (by kernel_rfl) (by kernel_rfl) (fun _ _ _ h => h) hS ⟨by rfl, ?_⟩ ?_
                    rotate_left
                    · (intro w0 hSw; obtain ⟨q0, q1, q2, q3, q4, q5, q6, q7⟩ := hSw; go_simp; try with_reducible rfl)
                    try simp only [Act.put, List.setIfInBounds_toArray, List.set_cons_zero, List.set_cons_succ]
                    refine anyX_take 1 (some 72) (v := ?_) rfl rfl (by kernel_rfl) (by kernel_rfl) (by kernel_rfl) (by kernel_rfl) (fun _ _ _ h => h) hS ⟨by rfl, ?_⟩ ?_
                    rotate_left
                    · (intro w0 hSw; obtain ⟨q0, q1, q2, q3, q4, q5, q6, q7⟩ := hSw; go_simp; try with_reducible rfl)
                    try simp only [Act.put, List.setIfInBounds_toArray, List.set_cons_zero, List.set_cons_succ]
                    refine anyX_take 2 (some 73) (v := ?_) rfl rfl (by kernel_rfl) (by kernel_rfl) (by kernel_rfl) (by kernel_rfl) (fun _ _ _ h => h) hS ⟨by rfl, ?_⟩ ?_
                    rotate_left
                    · (intro w0 hSw; obtain ⟨q0, q1, q2, q3, q4, q5, q6, q7⟩ := hSw; go_simp; try with_reducible rfl)
                    try simp only [Act.put, List.setIfInBounds_toArray, List.set_cons_zero, List.set_cons_succ]
                    refine anyX_take 3 (some 74) (v := ?_) rfl rfl (by kernel_rfl) (by kernel_rfl) (by kernel_rfl) (by kernel_rfl) (fun _ _ _ h => h) hS ⟨by rfl, ?_⟩ ?_
                    rotate_left
                    · (intro w0 hSw; obtain ⟨q0, q1, q2, q3, q4, q5, q6, q7⟩ := hSw; go_simp; try with_reducible rfl)
                    try simp only [Act.put, List.setIfInBounds_toArray, List.set_cons_zero, List.set_cons_succ]
                    refine anyX_take 4 (some 75) (v := ?_) rfl rfl (by kernel_rfl) (by kernel_rfl) (by kernel_rfl) (by kernel_rfl) (fun _ _ _ h => h) hS ⟨by rfl, ?_⟩ ?_
                    rotate_left
                    · (intro w0 hSw; obtain ⟨q0, q1, q2, q3, q4, q5, q6, q7⟩ := hSw; go_simp; try with_reducible rfl)
                    try simp only [Act.put, List.setIfInBounds_toArray, List.set_cons_zero, List.set_cons_succ]
                    refine anyX_take 5 (some 76) (v := ?_) rfl rfl (by kernel_rfl) (by kernel_rfl) (by kernel_rfl) (by kernel_rfl) (fun _ _ _ h => h) hS ⟨by rfl, ?_⟩ ?_
                    rotate_left
                    · (intro w0 hSw; obtain ⟨q0, q1, q2, q3, q4, q5, q6, q7⟩ := hSw; go_simp; try with_reducible rfl)
                    try simp only [Act.put, List.setIfInBounds_toArray, List.set_cons_zero, List.set_cons_succ]
                    refine anyX_take 6 (some 77) (v := ?_) rfl rfl (by kernel_rfl) (by kernel_rfl) (by kernel_rfl) (by kernel_rfl) (fun _ _ _ h => h) hS ⟨by rfl, ?_⟩ ?_
                    rotate_left
                    · (intro w0 hSw; obtain ⟨q0, q1, q2, q3, q4, q5, q6, q7⟩ := hSw; go_simp; try with_reducible rfl)
                    try simp only [Act.put, List.setIfInBounds_toArray, List.set_cons_zero, List.set_cons_succ]
                    refine anyX_take 7 (some 78) (v := ?_) rfl rfl (by kernel_rfl) (by kernel_rfl) (by kernel_rfl) (by kernel_rfl) (fun _ _ _ h => h) hS ⟨by rfl, ?_⟩ ?_
                    rotate_left
                    · (intro w0 hSw; obtain ⟨q0, q1, q2, q3, q4, q5, q6, q7⟩ := hSw; go_simp; try with_reducible rfl)
                    try simp only [Act.put, List.setIfInBounds_toArray, List.set_cons_zero, List.set_cons_succ]
                    refine anyX_take 8 (some 79) (v := ?_) rfl rfl (by kernel_rfl) (by kernel_rfl) (by kernel_rfl) (by kernel_rfl) (fun _ _ _ h => h) hS ⟨by rfl, ?_⟩ ?_
                    rotate_left
                    · (intro w0 hSw; obtain ⟨q0, q1, q2, q3, q4, q5, q6, q7⟩ := hSw; go_simp; try with_reducible rfl)
                    try simp only [Act.put, List.setIfInBounds_toArray, List.set_cons_zero, List.set_cons_succ]
                    refine anyX_take 9 (some 80) (v := ?_) rfl rfl (by kernel_rfl) (by kernel_rfl) (by kernel_rfl) (by kernel_rfl) (fun _ _ _ h => h) hS ⟨by rfl, ?_⟩ ?_
                    rotate_left
                    · (intro w0 hSw; obtain ⟨q0, q1, q2, q3, q4, q5, q6, q7⟩ := hSw; go_simp; try with_reducible rfl)
                    try simp only [Act.put, List.setIfInBounds_toArray, List.set_cons_zero, List.set_cons_succ]
                    refine anyX_take 10 (some 81) (v := ?_) rfl rfl (by kernel_rfl) (by kernel_rfl) (by kernel_rfl) (by kernel_rfl) (fun _ _ _ h => h) hS ⟨by rfl, ?_⟩ ?_
                    rotate_left
                    · (intro w0 hSw; obtain ⟨q0, q1, q2, q3, q4, q5, q6, q7⟩ := hSw; go_simp; try with_reducible rfl)
                    try simp only [Act.put, List.setIfInBounds_toArray, List.set_cons_zero, List.set_cons_succ]
                    refine anyX_take 11 (some 82) (v := ?_) rfl rfl (by kernel_rfl) (by kernel_rfl) (by kernel_rfl) (by kernel_rfl) (fun _ _ _ h => h) hS ⟨by rfl, ?_⟩ ?_
                    rotate_left
                    · (intro w0 hSw; obtain ⟨q0, q1, q2, q3, q4, q5, q6, q7⟩ := hSw; go_simp; try with_reducible rfl)
                    try simp only [Act.put, List.setIfInBounds_toArray, List.set_cons_zero, List.set_cons_succ]
                    refine anyX_take 12 (some 83) (v := ?_) rfl rfl (by kernel_rfl) (by kernel_rfl) (by kernel_rfl) (by kernel_rfl) (fun _ _ _ h => h) hS ⟨by rfl, ?_⟩ ?_
                    rotate_left
                    · (intro w0 hSw; obtain ⟨q0, q1, q2, q3, q4, q5, q6, q7⟩ := hSw; go_simp; try with_reducible rfl)
                    try simp only [Act.put, List.setIfInBounds_toArray, List.set_cons_zero, List.set_cons_succ]
                    refine anyX_take 14 (some 85) (v := ?_) rfl rfl (by kernel_rfl) (by kernel_rfl) (by kernel_rfl) (by kernel_rfl) (fun _ _ _ h => h) hS ⟨by rfl, ?_⟩ ?_
                    rotate_left
                    · (intro w0 hSw; obtain ⟨q0, q1, q2, q3, q4, q5, q6, q7⟩ := hSw; go_simp; try with_reducible rfl)
                    try simp only [Act.put, List.setIfInBounds_toArray, List.set_cons_zero, List.set_cons_succ]
                    refine anyX_take 15 (some 86) (v := ?_) rfl rfl (by kernel_rfl) (by kernel_rfl) (by kernel_rfl) (by kernel_rfl) (fun _ _ _ h => h) hS ⟨by rfl, ?_⟩ ?_
                    rotate_left
                    · (intro w0 hSw; obtain ⟨q0, q1, q2, q3, q4, q5, q6, q7⟩ := hSw; go_simp; try with_reducible rfl)
                    try simp only [Act.put, List.setIfInBounds_toArray, List.set_cons_zero, List.set_cons_succ]
                    refine anyX_take 16 (some 87) (v := ?_) rfl rfl (by kernel_rfl) (by kernel_rfl) (by kernel_rfl) (by kernel_rfl) (fun _ _ _ h => h) hS ⟨by rfl, ?_⟩ ?_
                    rotate_left
                    · (intro w0 hSw; obtain ⟨q0, q1, q2, q3, q4, q5, q6, q7⟩ := hSw; go_simp; try with_reducible rfl)
                    try simp only [Act.put, List.setIfInBounds_toArray, List.set_cons_zero, List.set_cons_succ]
                    refine anyX_take 17 (some 88) (v := ?_) rfl rfl (by kernel_rfl) (by kernel_rfl) (by kernel_rfl) (by kernel_rfl) (fun _ _ _ h => h) hS ⟨by rfl, ?_⟩ ?_
                    rotate_left
                    · (intro w0 hSw; obtain ⟨q0, q1, q2, q3, q4, q5, q6, q7⟩ := hSw; go_simp; try with_reducible rfl)
                    try simp only [Act.put, List.setIfInBounds_toArray, List.set_cons_zero, List.set_cons_succ]
                    refine anyX_take 18 (some 89) (v := ?_) rfl rfl (by kernel_rfl) (by kernel_rfl) (by kernel_rfl) (by kernel_rfl) (fun _ _ _ h => h) hS ⟨by rfl, ?_⟩ ?_
                    rotate_left
                    · (intro w0 hSw; obtain ⟨q0, q1, q2, q3, q4, q5, q6, q7⟩ := hSw; go_simp; try with_reducible rfl)
                    try simp only [Act.put, List.setIfInBounds_toArray, List.set_cons_zero, List.set_cons_succ]
                    refine anyX_one 13 rfl (by kernel_rfl) (fun K9 hK9 => ?_)
                    go_simp
                    with_reducible refine HRx.out.mono ?_
                    rintro e w7 ⟨A3, c3, rfl, hO7, hb7, _⟩
                    unfold refv
                    go_wp2_with fail
                    have hB7 := draw_way hb7
                    have hR7 := hR6.below hB7
                    have hl7 := hl6.below hB7
                    have hT7 := hT6.below hB7
                    have hz7 : w.heap.size ≤ w7.heap.size := Nat.le_trans hbw6.size hB7.size
                    have hS7 : Held15 b (o + k * 4) r s A2 c2 a A' c' w7 := ⟨cell_below hB7 g16, cell_below hB7 g26, cell_below hB7 g36, cell_below hB7 d0, cell_below hB7 d1, cell_below hB7 d2, cell_below hB7 d3, cell_below hB7 d4⟩
                    refine hK9.out _ _ hS7 ?_
                    clear hS d0 d1 d2 d3 d4 d5 df g16 g26 g36 hb7
                    have hS := hS7
                    clear hS7
                    clear hK9 K9
                    try simp only [Act.put, List.setIfInBounds_toArray, List.set_cons_zero, List.set_cons_succ]
                    refine anyX_one 19 rfl (by kernel_rfl) (fun K9 hK9 => ?_)
                    go_simp
                    with_reducible refine (HOx.out A3 c3 w7 hT7 hO7 hl7 hz7).mono ?_
                    rintro e w8 ⟨v8, A4, c4, N8, rfl, hN8, hJ8, hT8, hg8, hO8⟩
                    go_wp2_with fail
                    have hR8 := hR7.grown hg8 (by simpa using hrp)
                    have hS8 : Held15 b (o + k * 4) r s A2 c2 a A' c' w8 := hS.grown hg8 hbp hrp
                    refine hK9.out _ _ hS8 ?_
                    clear hS
                    have hS := hS8
                    clear hS8
                    clear hK9 K9
                    try simp only [Act.put, List.setIfInBounds_toArray, List.set_cons_zero, List.set_cons_succ]
                    refine anyX_pure 20 (some 70) (v := ?_) rfl rfl (by kernel_rfl) (by kernel_rfl) (by kernel_rfl) rfl (fun _ _ _ h => h) ⟨by rfl, ?_⟩ ?_
                    rotate_left
                    · (intro w0 _; go_simp; try with_reducible rfl)
                    try simp only [Act.put, List.setIfInBounds_toArray, List.set_cons_zero, List.set_cons_succ]
                    refine anyX_pure 21 (some 91) (v := ?_) rfl rfl (by kernel_rfl) (by kernel_rfl) (by kernel_rfl) rfl (fun _ _ _ h => h) ⟨by rfl, ?_⟩ ?_
                    rotate_left
                    · (intro w0 _; go_simp; try with_reducible rfl)
                    try simp only [Act.put, List.setIfInBounds_toArray, List.set_cons_zero, List.set_cons_succ]
                    refine anyX_pure 22 (some 92) (v := ?_) rfl rfl (by kernel_rfl) (by kernel_rfl) (by kernel_rfl) rfl (fun _ _ _ h => h) ⟨by rfl, ?_⟩ ?_
                    rotate_left
                    · (intro w0 _; go_simp; try with_reducible rfl)
                    try simp only [Act.put, List.setIfInBounds_toArray, List.set_cons_zero, List.set_cons_succ]
                    refine anyX_pure 23 (some 93) (v := ?_) rfl rfl (by kernel_rfl) (by kernel_rfl) (by kernel_rfl) rfl (fun _ _ _ h => h) ⟨by rfl, ?_⟩ ?_
                    rotate_left
                    · (intro w0 _; go_simp; try with_reducible rfl)
                    try simp only [Act.put, List.setIfInBounds_toArray, List.set_cons_zero, List.set_cons_succ]
                    refine anyX_pure 24 (some 9) (v := ?_) rfl rfl (by kernel_rfl) (by kernel_rfl) (by kernel_rfl) rfl (fun _ _ _ h => h) ⟨by rfl, ?_⟩ ?_
                    rotate_left
                    · (intro w0 _; go_simp; try with_reducible rfl)
                    try simp only [Act.put, List.setIfInBounds_toArray, List.set_cons_zero, List.set_cons_succ]
                    obtain ⟨z0, z1, z2, z3, z4, z5, zf⟩ := six hR8
                    refine anyX_last 25 rfl (by kernel_rfl) rfl (fun K9 hK9 => ?_)
                    go_simp
                    refine hK9.out _ _ ?_
                    clear hK9 K9
                    try simp only [Act.put, List.setIfInBounds_toArray, List.set_cons_zero, List.set_cons_succ]
                    refine anyX_pure 26 (some 11) (v := ?_) rfl rfl (by kernel_rfl) (by kernel_rfl) (by kernel_rfl) rfl (fun _ _ _ h => h) ⟨by rfl, ?_⟩ ?_
                    rotate_left
                    · (intro w0 _; go_simp; try with_reducible rfl)
                    try simp only [Act.put, List.setIfInBounds_toArray, List.set_cons_zero, List.set_cons_succ]
                    refine anyX_done (by kernel_rfl) ?_ _
                    go_wp2_with fail
                    go_meet
                    exact ⟨s2, N8, 0, rfl, rfl, rfl, by omega, hc3, both_store hT8 hJ8 hR8 ⟨_, _, _, _, _, _, rfl⟩ hO8 hrp.symm, below_only (below_only (chain hbw6 hB7) hg8 hwp hT7.lt) (only_set6 w8 r _ _ _ _ _ _) hwr hR8.lt⟩
        case rest =>
          focus
            obtain ⟨s2, N2, er, rfl, rfl, rfl, hnb3, hnb2, hB, hbx⟩ := hcut
            have e1 : ((er : Int) != (er : Int)) = false := by simp
            obtain ⟨hT, hJ, A4, c4, hR, hO⟩ := hB
            obtain ⟨d0, d1, d2, d3, d4, d5, df⟩ := six hR
            have HLn := Lib.hid (fun W h => jlen_or u9 w.heap.size p N2 W h)
            have HOn := Lib.hid (fun W h hb => on_any p s2 A4 c4 W h hb)
            have HB2 := Lib.hid (show BothJ wc w.heap.size p r u9 s2 N2 from ⟨hT, hJ, A4, c4, hR, hO⟩)
            go_wp2_with (fail)
            go_region_held3 (fun w' => w'.cell? ⟨r, 0, none⟩ = some (.int .i64 (s2.cap : Int)) ∧ w'.cell? ⟨r, 1, none⟩ = some (.slice A4 s2.b.length c4) ∧ w'.cell? ⟨r, 2, none⟩ = some (.int .i64 (s2.safe : Int)) ∧ w'.cell? ⟨r, 3, none⟩ = some (.int .i64 s2.fuse) ∧ w'.cell? ⟨r, 4, none⟩ = some (.bool s2.lost) ∧ w'.cell? ⟨r, 5, none⟩ = some (.int .i64 (N2 : Int))) (go_keep)
              ((first
                | (go_at_call 15; (refine (HLn.out _ (hJ.drewN _)).mono ?_); rintro e w8 ⟨rfl, rfl⟩)
                | (go_at_call 22; (refine (HOn.out _ (hT.drewN _) (hO.bs.drewN _)).mono ?_); rintro e w9 ⟨rfl, hb9⟩; have hB9 : Below wc.heap.size wc w9 := (below_drewN (Below.refl _ wc) _).trans hb9; have hR9 := hR.below hB9; obtain ⟨z0, z1, z2, z3, z4, z5, zf⟩ := six hR9)))
            go_wp2
            exact ⟨⟨k + 1, s2, N2, by omega, by go_num, rfl, by omega, by omega, HB2.out.below hB9, chain hbx hB9⟩, by simp [intOf]; omega⟩
      · go_wp2
        go_ret
        exact ⟨rfl, hbel⟩
  · by_cases hF2 : fewB18 L = true
    · have hm : ¬ m ≤ 300 := fun h => hF ⟨hF2, h⟩
      rw [hF2] at HW
      clear hF hF2
      go_enter Try.func4, Try.ntmps4
      go_wp2_with (first
        | (go_at_call 5; have hb0 := hb1; refine (awake18_any _).mono ?_; rintro e w2 ⟨rfl, hb2⟩)
        | (go_at_call 5; refine (awake18_any _).mono ?_; rintro e w1 ⟨rfl, hb1⟩)
        | (go_at_call 12; refine (HW.out _ (hL.below hb1)).mono ?_; rintro e w2 ⟨rfl, rfl⟩))
      go_ret
      exact ⟨rfl, chain hb1 hb2⟩
    · have hF' : fewB18 L = false := by simpa using hF2
      rw [hF'] at HW
      clear hF hF2 hF'
      go_enter Try.func4, Try.ntmps4
      go_wp2_with (first
        | (go_at_call 5; have hb0 := hb1; refine (awake18_any _).mono ?_; rintro e w2 ⟨rfl, hb2⟩)
        | (go_at_call 5; refine (awake18_any _).mono ?_; rintro e w1 ⟨rfl, hb1⟩)
        | (go_at_call 12; refine (HW.out _ (hL.below hb1)).mono ?_; rintro e w2 ⟨rfl, rfl⟩))
      go_ret
      exact ⟨rfl, chain hb1 hb2⟩
end Go.Proofs.Ytiheeajepnpejaa
