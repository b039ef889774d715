/- opens of the laws of layer 18, walked where the journal isn't opened. -/
import Derived.Test.YtiheeajepnpejaaJouY
import Derived.Test.YtiheeajepnpejaaJouI
namespace Go.Proofs.Ytiheeajepnpejaa
open Go.RowKit TapM FrameM JouM
theorem RefOpened.none {w w' : World} {B er : Nat} {s2 : TS} {l : List (List UInt8)} {e : Ending} (h : RefOpened w B (s2, l, er) e w') (her : er ≠ 0) :
    ∃ A6 c6, e = .returned (.tuple #[.agg #[.int .i64 (s2.cap : Int), .slice A6 s2.b.length c6, .int .i64 (s2.safe : Int), .int .i64 s2.fuse, .bool s2.lost, .int .i64 0], .slice none 0 0, .slice none 0 0, .int .i64 (er : Int)]) ∧
      Own w' B (.slice A6 s2.b.length c6) s2.b ∧ Below w.heap.size w w' := by
  obtain ⟨A6, c6, hO, hb, ⟨h0, _⟩ | ⟨_, he⟩⟩ := h
  · exact absurd h0 her
  · exact ⟨A6, c6, he, hO, hb⟩
set_option maxRecDepth 100000 in
set_option maxHeartbeats 6400000 in
theorem opens_no (B p : Nat) (s : TS) (A : Option Addr) (c : Nat) (X : Option Addr) (m d : Nat) (base : List UInt8) (w : World) (hT : TapeAt w p s) (ho : Own w B (.slice A s.b.length c) s.b) (hb : Bs w X m base) (hs : s.b.length ≤ 1000000) (hB : B ≤ w.heap.size)
    (s2 : TS) (l : List (List UInt8)) (er : Nat) (her : er ≠ 0) (hr : opened s base = (s2, l, er)) :
    Calls Try.prog 10 #[.pointer (some ⟨p, 0, none⟩), .agg #[.int .i64 (s.cap : Int), .slice A s.b.length c, .int .i64 (s.safe : Int), .int .i64 s.fuse, .bool s.lost], .slice X m d] w (OpenedBoth w B p (s2, l, er)) := by
  have HOp := Lib.hid (fun W h hb => open_any p s X m d base W h hb hs)
  have HRo := Lib.hid (fun W ho hb hB => refopen_any B s A c X m d base W hT.ok ho hb hs hB)
  rw [hr] at HOp HRo
  have HAl := Lib.hid (fun W => alike_any none none 0 0 0 0 [] [] W (Rws.nil W none) (Rws.nil W none) (by omega))
  rw [alikeB_yes rfl] at HAl
  have hpl := hT.lt
  clear hr
  have n1 : ((er : Int) == 0) = false := beq_eq_false_iff_ne.2 (by omega)
  have sN : ∀ W : World, (convert 22 9 (.slice none 0 0)).run Try.prog W = .ok (.string ⟨([] : List UInt8).toArray⟩) W := fun W => run_str 0 (Bs.nil W none) 0
  go_enter Try.func10, Try.ntmps10
  go_upto_region 2 with (go_at_call 29; refine (HOp.out _ ((hT.alloc _).alloc _) ((hb.alloc _).alloc _)).mono ?_; rintro e w1 ⟨hT1, hg1, ⟨h0, _⟩ | ⟨_, rfl⟩⟩; (exact absurd h0 her))
  have hX1 := ((Cells.new w 30 #[.int .i64 (s.cap : Int), .slice A s.b.length c, .int .i64 (s.safe : Int), .int .i64 s.fuse, .bool s.lost]).alloc (.cells #[.int .i64 0, .slice none 0 0, .int .i64 0, .int .i64 0, .bool false, .int .i64 0] 36)).grown hg1 (by simp; omega)
  have hZ1 := (Cells.new (w.alloc (.cells #[.int .i64 (s.cap : Int), .slice A s.b.length c, .int .i64 (s.safe : Int), .int .i64 s.fuse, .bool s.lost] 30)) 36 #[.int .i64 0, .slice none 0 0, .int .i64 0, .int .i64 0, .bool false, .int .i64 0]).grown hg1 (by simp; omega)
  have hO1 := ((ho.alloc (.cells #[.int .i64 (s.cap : Int), .slice A s.b.length c, .int .i64 (s.safe : Int), .int .i64 s.fuse, .bool s.lost] 30)).alloc (.cells #[.int .i64 0, .slice none 0 0, .int .i64 0, .int .i64 0, .bool false, .int .i64 0] 36)).tape ((hT.alloc _).alloc _) hg1
  have hgw : w.grownBy w1 (some p) := only_trans (only_of (bl_alloc (bl_alloc (Below.refl _ w) _) _) _) hg1
  have hb1 := hb.only hgw (by obtain ⟨_, _, hC, _⟩ := hT.open_; exact hb.ne_tape hC)
  obtain ⟨d0, d1, d2, d3, d4, _⟩ := five hX1
  rw [show (w.alloc (.cells #[.int .i64 (s.cap : Int), .slice A s.b.length c, .int .i64 (s.safe : Int), .int .i64 s.fuse, .bool s.lost] 30)).heap.size = w.heap.size + 1 from by simp] at hZ1
  have hB1' : B ≤ w1.heap.size := Nat.le_trans hB hgw.size
  have HC := Lib.hid (HRo.out w1 hO1 hb1 hB1')
  clear HRo
  go_wp2_with (fail)
  refine HC.out.mono ?_
  intro e w2 h2
  obtain ⟨A6, c6, rfl, hO2, hb2⟩ := h2.none her
  clear h2 HC
  go_wp2_with (fail)
  have hQ := Cells.new w2 36 #[.int .i64 (s2.cap : Int), .slice A6 s2.b.length c6, .int .i64 (s2.safe : Int), .int .i64 s2.fuse, .bool s2.lost, .int .i64 0]
  have hOx := hO2.alloc (.cells #[.int .i64 (s2.cap : Int), .slice A6 s2.b.length c6, .int .i64 (s2.safe : Int), .int .i64 s2.fuse, .bool s2.lost, .int .i64 0] 36)
  have hbx := bl_alloc' hb2 (.cells #[.int .i64 (s2.cap : Int), .slice A6 s2.b.length c6, .int .i64 (s2.safe : Int), .int .i64 s2.fuse, .bool s2.lost, .int .i64 0] 36)
  have hq3 := hb2.size
  clear hO2 hb2
  generalize hW : w2.alloc (.cells #[.int .i64 (s2.cap : Int), .slice A6 s2.b.length c6, .int .i64 (s2.safe : Int), .int .i64 s2.fuse, .bool s2.lost, .int .i64 0] 36) = wx at hQ hOx hbx ⊢
  clear hW
  generalize hq3' : w2.heap.size = q3 at hQ hq3 ⊢
  clear hq3'
  have hTx := hT1.below hbx
  have hZx := hZ1.below hbx
  have hgx : w.grownBy wx (some p) := only_below hgw hbx
  have HLn := Lib.hid (fun W => jlen_nil W)
  have HOn := Lib.hid (fun W h hb => on_any p s2 A6 c6 W h hb)
  have hneq : some q3 ≠ some (w.heap.size + 1) := by have := hZ1.lt; intro e; injection e with e; omega
  have hne : ¬ q3 = w.heap.size + 1 := by have := hZ1.lt; omega
  clear d0 d1 d2 d3 d4 hX1 hZ1 hO1 hb1 hT1 hg1 hbx HOp her
  obtain ⟨r0, r1, r2, r3, r4, r5, rf⟩ := six hQ
  go_wp2_with (fail)
  go_region_held3 (fun w' => w'.cell? ⟨q3, 0, none⟩ = some (.int .i64 (s2.cap : Int)) ∧ w'.cell? ⟨q3, 1, none⟩ = some (.slice A6 s2.b.length c6) ∧ w'.cell? ⟨q3, 2, none⟩ = some (.int .i64 (s2.safe : Int)) ∧ w'.cell? ⟨q3, 3, none⟩ = some (.int .i64 s2.fuse) ∧ w'.cell? ⟨q3, 4, none⟩ = some (.bool s2.lost) ∧ w'.cell? ⟨q3, 5, none⟩ = some (.int .i64 0)) (go_keep)
    ((first
      | (go_at_call 31; (refine (HAl.out _).mono ?_); rintro e w8 ⟨rfl, j8, rfl⟩)
      | (go_at_call 15; (refine (HLn.out _).mono ?_); rintro e w8 ⟨rfl, rfl⟩)
      | (go_at_call 22; (refine (HOn.out _ (hTx.drewN _) (hOx.bs.drewN _)).mono ?_); rintro e w9 ⟨rfl, hb9⟩; have hB9 : Below wx.heap.size wx w9 := (below_drewN (Below.refl _ wx) _).trans hb9; have hQ9 := hQ.below hB9; have hZ9 := hZx.below hB9; obtain ⟨g0, g1, g2, g3, g4, g5, gf⟩ := six (hQ9.grown (only_set6 w9 (w.heap.size + 1) (.int .i64 (s2.cap : Int)) (.slice A6 s2.b.length c6) (.int .i64 (s2.safe : Int)) (.int .i64 s2.fuse) (.bool s2.lost) (.int .i64 0)) hneq); clear gf; unfold set6 at g0 g1 g2 g3 g4 g5; obtain ⟨z0, z1, z2, z3, z4, z5, zf⟩ := six hZ9; obtain ⟨y0, y1, y2, y3, y4, y5, yf⟩ := six hQ9)))
  clear sN r0 r1 r2 r3 r4 r5 g0 g1 g2 g3 g4 g5 y0 y1 y2 y3 y4 y5 HAl HLn HOn
  obtain ⟨y0, y1, y2, y3, y4, y5, yf⟩ := six (hZ9.set6 (.int .i64 (s2.cap : Int)) (.slice A6 s2.b.length c6) (.int .i64 (s2.safe : Int)) (.int .i64 s2.fuse) (.bool s2.lost) (.int .i64 0))
  unfold set6 at y0 y1 y2 y3 y4 y5
  clear yf
  go_wp2
  refine bodyPost_ret (v := .tuple #[.pointer none, .agg #[.int .i64 (s2.cap : Int), .slice A6 s2.b.length c6, .int .i64 (s2.safe : Int), .int .i64 s2.fuse, .bool s2.lost, .int .i64 0], .bool true]) (by simp [results, Try.results10, go_sem, *]) rfl ?_
  exact both_end (q := 0) hgx hB9 hTx hOx hZx hpl (fun w' _ => .inr ⟨by intro h; rw [h] at n1; simp at n1, rfl⟩)
/-- opens, whatever is on the tape. -/
theorem opens_any (B p : Nat) (s : TS) (A : Option Addr) (c : Nat) (X : Option Addr) (m d : Nat) (base : List UInt8) (w : World) (hT : TapeAt w p s) (ho : Own w B (.slice A s.b.length c) s.b) (hb : Bs w X m base) (hs : s.b.length ≤ 1000000) (hB : B ≤ w.heap.size) :
    Calls Try.prog 10 #[.pointer (some ⟨p, 0, none⟩), .agg #[.int .i64 (s.cap : Int), .slice A s.b.length c, .int .i64 (s.safe : Int), .int .i64 s.fuse, .bool s.lost], .slice X m d] w (OpenedBoth w B p (opened s base)) := by
  have hR := opened_recs hT.ok base
  generalize hr : opened s base = r at hR
  obtain ⟨s2, l, er⟩ := r
  by_cases her : er = 0
  · subst her
    obtain ⟨x, xs, rfl, hx⟩ := hR rfl
    exact opens_ok B p s A c X m d base w hT ho hb hs hB s2 x xs (by omega) hr
  · exact opens_no B p s A c X m d base w hT ho hb hs hB s2 l er her hr
end Go.Proofs.Ytiheeajepnpejaa
