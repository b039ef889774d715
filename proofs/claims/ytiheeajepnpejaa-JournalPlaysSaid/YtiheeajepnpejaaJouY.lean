/- opens of the laws of layer 18, walked: a tape's journal, opened as the document says. -/
import Derived.Test.YtiheeajepnpejaaJouX
namespace Go.Proofs.Ytiheeajepnpejaa
open Go.RowKit TapM FrameM JouM
/-- What opens leaves and answers. -/
def OpenedBoth (w : World) (B p : Nat) (r : TS × List (List UInt8) × Nat) (e : Ending) (w' : World) : Prop :=
  ∃ A2 c2, TapeAt w' p r.1 ∧ w.grownBy w' (some p) ∧ Own w' B (.slice A2 r.1.b.length c2) r.1.b ∧
    ((r.2.2 = 0 ∧ ∃ q x xs, r.2.1 = x :: xs ∧ w.heap.size ≤ q ∧ JAt w' q p xs.length ∧ e = .returned (.tuple #[.pointer (some ⟨q, 0, none⟩), refj r.1 xs.length A2 c2, .bool true])) ∨
     (r.2.2 ≠ 0 ∧ e = .returned (.tuple #[.pointer none, refj r.1 0 A2 c2, .bool true])))
theorem RefOpened.cons {w w' : World} {B : Nat} {s2 : TS} {x : List UInt8} {xs : List (List UInt8)} {e : Ending} (h : RefOpened w B (s2, x :: xs, 0) e w') :
    ∃ A6 c6 X1 d1 X2 d2, e = .returned (.tuple #[.agg #[.int .i64 (s2.cap : Int), .slice A6 s2.b.length c6, .int .i64 (s2.safe : Int), .int .i64 s2.fuse, .bool s2.lost, .int .i64 (xs.length : Int)], .slice X1 x.length d1, .slice X2 xs.length d2, .int .i64 0]) ∧
      Own w' B (.slice A6 s2.b.length c6) s2.b ∧ Bs w' X1 x.length x ∧ Rws w' X2 xs.length xs ∧ Below w.heap.size w w' := by
  obtain ⟨A6, c6, hO, hb, ⟨_, X1, d1, X2, d2, x', xs', hxs, he, hB, hR⟩ | ⟨hne, _⟩⟩ := h
  · obtain rfl : x = x' := (List.cons.inj hxs).1
    obtain rfl : xs = xs' := (List.cons.inj hxs).2
    exact ⟨A6, c6, X1, d1, X2, d2, he, hO, hB, hR, hb⟩
  · exact absurd rfl hne
theorem bl_alloc' {w w' : World} (h : Below w.heap.size w w') (o : Obj) : Below w.heap.size w (w'.alloc o) := h.alloc h.size o
theorem both_end {w wx w9 : World} {B p q c6 er : Nat} {s2 : TS} {l : List (List UInt8)} {A6 : Option Addr} {a0 a1 a2 a3 a4 a5 u0 u1 u2 u3 u4 u5 : Value}
    (hgx : w.grownBy wx (some p)) (hB9 : Below wx.heap.size wx w9) (hTx : TapeAt wx p s2) (hOx : Own wx B (.slice A6 s2.b.length c6) s2.b) (hZx : Cells wx (w.heap.size + 1) 36 #[a0, a1, a2, a3, a4, a5]) (hp : p < w.heap.size)
    {e : Ending} (hr : ∀ w' : World, (∀ cs, Cells wx q 70 cs → w.heap.size + 2 ≤ q → Cells w' q 70 cs) → 
      (er = 0 ∧ ∃ q x xs, l = x :: xs ∧ w.heap.size ≤ q ∧ JAt w' q p xs.length ∧ e = .returned (.tuple #[.pointer (some ⟨q, 0, none⟩), refj s2 xs.length A6 c6, .bool true])) ∨
       (er ≠ 0 ∧ e = .returned (.tuple #[.pointer none, refj s2 0 A6 c6, .bool true]))) :
    OpenedBoth w B p (s2, l, er) e (set6 w9 (w.heap.size + 1) u0 u1 u2 u3 u4 u5) := by
  have hZ9 := hZx.below hB9
  have hg := only_set6 w9 (w.heap.size + 1) u0 u1 u2 u3 u4 u5
  have hne : p ≠ w.heap.size + 1 := by omega
  refine ⟨A6, c6, ?_, ?_, (hOx.below hB9).grown hg hZ9 jref_ne, hr _ ?_⟩
  · exact (hTx.below hB9).far hZ9 jref_ne hne hg
  · have hw := only_below hgx hB9
    unfold set6
    exact only_store_new (only_store_new (only_store_new (only_store_new (only_store_new (only_store_new hw (by omega) _ _) (by omega) _ _) (by omega) _ _) (by omega) _ _) (by omega) _ _) (by omega) _ _
  · intro cs hc hq
    exact (hc.below hB9).grown hg (by intro e; injection e with e; omega)
set_option maxRecDepth 100000 in
set_option maxHeartbeats 6400000 in
theorem opens_ok (B p : Nat) (s : TS) (A : Option Addr) (c : Nat) (X : Option Addr) (m d : Nat) (base : List UInt8) (w : World) (hT : TapeAt w p s) (ho : Own w B (.slice A s.b.length c) s.b) (hb : Bs w X m base) (hs : s.b.length ≤ 1000000) (hB : B ≤ w.heap.size)
    (s2 : TS) (x : List UInt8) (xs : List (List UInt8)) (hxl : xs.length ≤ 1000000000) (hr : opened s base = (s2, x :: xs, 0)) :
    Calls Try.prog 10 #[.pointer (some ⟨p, 0, none⟩), .agg #[.int .i64 (s.cap : Int), .slice A s.b.length c, .int .i64 (s.safe : Int), .int .i64 s.fuse, .bool s.lost], .slice X m d] w (OpenedBoth w B p (s2, x :: xs, 0)) := by
  have HOp := Lib.hid (fun W h hb => open_any p s X m d base W h hb hs)
  have HRo := Lib.hid (fun W ho hb hB => refopen_any B s A c X m d base W hT.ok ho hb hs hB)
  rw [hr] at HOp HRo
  have HAl := Lib.hid (fun A1 A2 c1 c2 W h1 h2 => alike_any A1 A2 xs.length xs.length c1 c2 xs xs W h1 h2 (by omega))
  rw [alikeB_yes rfl] at HAl
  have hpl := hT.lt
  clear hr
  go_enter Try.func10, Try.ntmps10
  go_upto_region 2 with (go_at_call 29; refine (HOp.out _ ((hT.alloc _).alloc _) ((hb.alloc _).alloc _)).mono ?_; rintro e w1 ⟨hT1, hg1, ⟨_, q, A1, c1, x', A2, c2, xs', hxs, rfl, hq, hj, hB1, hR1⟩ | ⟨hne, _⟩⟩; rotate_left; (exact absurd rfl hne))
  obtain rfl : x = x' := (List.cons.inj hxs).1
  obtain rfl : xs = xs' := (List.cons.inj hxs).2
  have hX1 := ((Cells.new w 30 #[.int .i64 (s.cap : Int), .slice A s.b.length c, .int .i64 (s.safe : Int), .int .i64 s.fuse, .bool s.lost]).alloc (.cells #[.int .i64 0, .slice none 0 0, .int .i64 0, .int .i64 0, .bool false, .int .i64 0] 36)).grown hg1 (by simp; omega)
  have hZ1 := (Cells.new (w.alloc (.cells #[.int .i64 (s.cap : Int), .slice A s.b.length c, .int .i64 (s.safe : Int), .int .i64 s.fuse, .bool s.lost] 30)) 36 #[.int .i64 0, .slice none 0 0, .int .i64 0, .int .i64 0, .bool false, .int .i64 0]).grown hg1 (by simp; omega)
  have hO1 := ((ho.alloc (.cells #[.int .i64 (s.cap : Int), .slice A s.b.length c, .int .i64 (s.safe : Int), .int .i64 s.fuse, .bool s.lost] 30)).alloc (.cells #[.int .i64 0, .slice none 0 0, .int .i64 0, .int .i64 0, .bool false, .int .i64 0] 36)).tape ((hT.alloc _).alloc _) hg1
  have hgw : w.grownBy w1 (some p) := only_trans (only_of (bl_alloc (bl_alloc (Below.refl _ w) _) _) _) hg1
  have hb1 := hb.only hgw (by obtain ⟨_, _, hC, _⟩ := hT.open_; exact hb.ne_tape hC)
  obtain ⟨d0, d1, d2, d3, d4, _⟩ := five hX1
  rw [show (w.alloc (.cells #[.int .i64 (s.cap : Int), .slice A s.b.length c, .int .i64 (s.safe : Int), .int .i64 s.fuse, .bool s.lost] 30)).heap.size = w.heap.size + 1 from by simp] at hZ1
  have hB1' : B ≤ w1.heap.size := Nat.le_trans hB hgw.size
  have HC := Lib.hid (HRo.out w1 hO1 hb1 hB1')
  clear HRo
  go_wp2_with (fail)
  refine HC.out.mono ?_
  intro e w2 h2
  obtain ⟨A6, c6, X1, e1, X2, e2, rfl, hO2, hB2', hR2', hb2⟩ := h2.cons
  clear h2 HC
  go_wp2_with (fail)
  have hQ := Cells.new w2 36 #[.int .i64 (s2.cap : Int), .slice A6 s2.b.length c6, .int .i64 (s2.safe : Int), .int .i64 s2.fuse, .bool s2.lost, .int .i64 (xs.length : Int)]
  have hOx := hO2.alloc (.cells #[.int .i64 (s2.cap : Int), .slice A6 s2.b.length c6, .int .i64 (s2.safe : Int), .int .i64 s2.fuse, .bool s2.lost, .int .i64 (xs.length : Int)] 36)
  have hB2 := hB2'.alloc (.cells #[.int .i64 (s2.cap : Int), .slice A6 s2.b.length c6, .int .i64 (s2.safe : Int), .int .i64 s2.fuse, .bool s2.lost, .int .i64 (xs.length : Int)] 36)
  have hR2 := hR2'.below (bl_alloc (Below.refl _ w2) (.cells #[.int .i64 (s2.cap : Int), .slice A6 s2.b.length c6, .int .i64 (s2.safe : Int), .int .i64 s2.fuse, .bool s2.lost, .int .i64 (xs.length : Int)] 36))
  have hbx := bl_alloc' hb2 (.cells #[.int .i64 (s2.cap : Int), .slice A6 s2.b.length c6, .int .i64 (s2.safe : Int), .int .i64 s2.fuse, .bool s2.lost, .int .i64 (xs.length : Int)] 36)
  have hq3 := hb2.size
  clear hO2 hB2' hR2' hb2
  generalize hW : w2.alloc (.cells #[.int .i64 (s2.cap : Int), .slice A6 s2.b.length c6, .int .i64 (s2.safe : Int), .int .i64 s2.fuse, .bool s2.lost, .int .i64 (xs.length : Int)] 36) = wx at hQ hOx hB2 hR2 hbx ⊢
  clear hW
  generalize hq3' : w2.heap.size = q3 at hQ hq3 ⊢
  clear hq3'
  have hTx := hT1.below hbx
  have hjx : JAt wx q p xs.length := Cells.below hj hbx
  have hZx := hZ1.below hbx
  have hB1x := hB1.below hbx
  have hR1x := hR1.below hbx
  have s1 := run_str c1 hB1x
  have s2' := run_str e1 hB2
  have HK1 := Lib.hid (fun (w9 : World) (hb9 : Below wx.heap.size wx w9) => run_str c1 (hB1x.below hb9) 0)
  have HK2 := Lib.hid (fun (w9 : World) (hb9 : Below wx.heap.size wx w9) => run_str e1 (hB2.below hb9) 0)
  have HK3 := Lib.hid (fun (w9 : World) (u0 u1 u2 u3 u4 u5 : Value) (hb9 : Below wx.heap.size wx w9) => run_str c1 ((hB1x.below hb9).only (only_set6 w9 (w.heap.size + 1) u0 u1 u2 u3 u4 u5) ((hB1x.below hb9).ne_six (hZx.below hb9))) 0)
  have HK4 := Lib.hid (fun (w9 : World) (u0 u1 u2 u3 u4 u5 : Value) (hb9 : Below wx.heap.size wx w9) => run_str e1 ((hB2.below hb9).only (only_set6 w9 (w.heap.size + 1) u0 u1 u2 u3 u4 u5) ((hB2.below hb9).ne_six (hZx.below hb9))) 0)
  have hgx : w.grownBy wx (some p) := only_below hgw hbx
  have HLn := Lib.hid (fun W h => jlen_any q p xs.length W h)
  have HOn := Lib.hid (fun W h hb => on_any p s2 A6 c6 W h hb)
  have hneq : some q3 ≠ some (w.heap.size + 1) := by have := hZ1.lt; intro e; injection e with e; omega
  have hne : ¬ q3 = w.heap.size + 1 := by have := hZ1.lt; omega
  clear hB1x hB2 hxs d0 d1 d2 d3 d4 hX1 hZ1 hO1 hb1 hT1 hg1 hj hB1 hR1 hbx HOp
  generalize hS : (⟨x.toArray⟩ : ByteArray) = S at s1 s2' HK1 HK2 HK3 HK4
  clear hS
  have s1d : (convert 22 9 (.slice A1 x.length c1)).run Try.prog wx.drew = .ok (.string S) wx.drew := s1 1
  have s2d : (convert 22 9 (.slice X1 x.length e1)).run Try.prog wx.drew = .ok (.string S) wx.drew := s2' 1
  obtain ⟨r0, r1, r2, r3, r4, r5, rf⟩ := six hQ
  go_wp2_with (fail)
  go_region_held3 (fun w' => w'.cell? ⟨q3, 0, none⟩ = some (.int .i64 (s2.cap : Int)) ∧ w'.cell? ⟨q3, 1, none⟩ = some (.slice A6 s2.b.length c6) ∧ w'.cell? ⟨q3, 2, none⟩ = some (.int .i64 (s2.safe : Int)) ∧ w'.cell? ⟨q3, 3, none⟩ = some (.int .i64 s2.fuse) ∧ w'.cell? ⟨q3, 4, none⟩ = some (.bool s2.lost) ∧ w'.cell? ⟨q3, 5, none⟩ = some (.int .i64 (xs.length : Int)) ∧ (convert 22 9 (.slice A1 x.length c1)).run Try.prog w' = .ok (.string S) w' ∧ (convert 22 9 (.slice X1 x.length e1)).run Try.prog w' = .ok (.string S) w') (go_keep)
    ((first
      | (go_at_call 31; (refine (HAl.out _ _ _ _ _ hR1x.drew hR2.drew).mono ?_); rintro e w8 ⟨rfl, j8, rfl⟩)
      | (go_at_call 15; (refine (HLn.out _ (Cells.drewN hjx _)).mono ?_); rintro e w8 ⟨rfl, rfl⟩)
      | (go_at_call 22; (refine (HOn.out _ (hTx.drewN _) (hOx.bs.drewN _)).mono ?_); rintro e w9 ⟨rfl, hb9⟩; have hB9 : Below wx.heap.size wx w9 := (below_drewN (Below.refl _ wx) _).trans hb9; have hQ9 := hQ.below hB9; have hZ9 := hZx.below hB9; have t1 := HK1.out w9 hB9; have t2 := HK2.out w9 hB9; have t3 := HK3.out w9 (.int .i64 (s2.cap : Int)) (.slice A6 s2.b.length c6) (.int .i64 (s2.safe : Int)) (.int .i64 s2.fuse) (.bool s2.lost) (.int .i64 (xs.length : Int)) hB9; have t4 := HK4.out w9 (.int .i64 (s2.cap : Int)) (.slice A6 s2.b.length c6) (.int .i64 (s2.safe : Int)) (.int .i64 s2.fuse) (.bool s2.lost) (.int .i64 (xs.length : Int)) hB9; obtain ⟨g0, g1, g2, g3, g4, g5, gf⟩ := six (hQ9.grown (only_set6 w9 (w.heap.size + 1) (.int .i64 (s2.cap : Int)) (.slice A6 s2.b.length c6) (.int .i64 (s2.safe : Int)) (.int .i64 s2.fuse) (.bool s2.lost) (.int .i64 (xs.length : Int))) hneq); clear gf; unfold set6 at t3 t4 g0 g1 g2 g3 g4 g5; rw [show ∀ W : World, W.drewN 0 = W from fun W => rfl] at t1 t2 t3 t4;  obtain ⟨z0, z1, z2, z3, z4, z5, zf⟩ := six hZ9; obtain ⟨y0, y1, y2, y3, y4, y5, yf⟩ := six hQ9)))
  have hq2 : w.heap.size + 2 ≤ q := by simp at hq; omega
  clear s1 s2' s1d s2d r0 r1 r2 r3 r4 r5 t1 t2 t3 t4 g0 g1 g2 g3 g4 g5 y0 y1 y2 y3 y4 y5 HAl HLn HOn HK1 HK2 HK3 HK4
  obtain ⟨y0, y1, y2, y3, y4, y5, yf⟩ := six (hZ9.set6 (.int .i64 (s2.cap : Int)) (.slice A6 s2.b.length c6) (.int .i64 (s2.safe : Int)) (.int .i64 s2.fuse) (.bool s2.lost) (.int .i64 (xs.length : Int)))
  unfold set6 at y0 y1 y2 y3 y4 y5
  clear yf
  go_wp2
  refine bodyPost_ret (v := .tuple #[.pointer (some ⟨q, 0, none⟩), .agg #[.int .i64 (s2.cap : Int), .slice A6 s2.b.length c6, .int .i64 (s2.safe : Int), .int .i64 s2.fuse, .bool s2.lost, .int .i64 (xs.length : Int)], .bool true]) (by simp [results, Try.results10, go_sem, *]) rfl ?_
  exact both_end hgx hB9 hTx hOx hZx hpl (fun w' hk => .inl ⟨rfl, q, x, xs, rfl, by omega, hk _ hjx hq2, rfl⟩)
end Go.Proofs.Ytiheeajepnpejaa
