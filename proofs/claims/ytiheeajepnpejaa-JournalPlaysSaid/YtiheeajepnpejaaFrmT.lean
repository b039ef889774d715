/- -/
import Derived.Test.YtiheeajepnpejaaFrmR
namespace Go.Proofs.Ytiheeajepnpejaa
open Go.RowKit FrameM
set_option maxHeartbeats 800000 in
theorem reffirst_told (b o : Nat) (n c : Nat) (l : List UInt8) (w : World) (hl : Bs w (some ⟨b, o, none⟩) n l) (hm : n ≤ 1000000) (hc : n ≤ c) (h1 : num l ≤ 60000) (h2 : num l + 8 ≤ n) :
    Calls Try.prog 50 #[.slice (some ⟨b, o, none⟩) n c] w fun e w' => ∃ A2 c2, e = .returned (.tuple #[.slice A2 (num l) c2, .bool (FrameM.first l).isSome]) ∧ Own w' w.heap.size (.slice A2 (num l) c2) ((l.drop 4).take (num l)) ∧ Below w.heap.size w w' := by
  have HC := Lib.hid (told_any (some ⟨b, o, none⟩) n c l w hl (by omega))
  rw [first_isSome hl.1 h1 h2]
  have hb3 : Bs w (some ⟨b, o + 4, none⟩) (num l) ((l.drop 4).take (num l)) :=
    hl.cut (k := 4) (by omega) (num l) (by omega) (fun _ => ⟨b, o, rfl⟩) (some ⟨b, o + 4, none⟩) (fun b' o' e _ => by injection e with e; injection e with e1 e2; rw [e1, e2])
  have hb1 : Bs w (some ⟨b, o, none⟩) (8 + num l) (l.take (8 + num l)) := by
    have := hl.cut (k := 0) (by omega) (8 + num l) (by omega) (fun _ => ⟨b, o, rfl⟩) (some ⟨b, o, none⟩) (fun b' o' e _ => by rw [Nat.add_zero]; exact e)
    rw [List.drop_zero] at this
    exact this
  have hxl : ((l.drop 4).take (num l)).length = num l := by rw [List.length_take, List.length_drop, hl.1]; omega
  have hsq := str_eq (frame ((l.drop 4).take (num l))) (l.take (8 + num l))
  generalize (l.drop 4).take (num l) = x at *
  generalize l.take (8 + num l) = y at *
  generalize decide (frame x = y) = B at *
  generalize num l = m at *
  have HXL := Lib.hid hxl
  have HSQ := Lib.hid hsq
  clear hxl hsq hl
  have i1 : IntKind.i64.wrap (8 + (m : Int)) = 8 + (m : Int) := IntWalk.i64_in _ (by omega)
  have i2 : (0 : Int) ≤ 8 + (m : Int) := by omega
  have i3 : (8 + (m : Int)).toNat = 8 + m := by omega
  have i4 : 8 + (m : Int) ≤ (c : Int) := by omega
  have i7 : ¬ c = 4 := by omega
  have j1 : IntKind.i64.wrap (4 + (m : Int)) = 4 + (m : Int) := IntWalk.i64_in _ (by omega)
  have j2 : (0 : Int) ≤ 4 + (m : Int) := by omega
  have j3 : (4 + (m : Int)).toNat = 4 + m := by omega
  have j4 : 4 + (m : Int) ≤ (c : Int) := by omega
  have j5 : (4 : Int) ≤ 4 + (m : Int) := by omega
  have j6 : 4 + m - 4 = m := by omega
  go_enter Try.func50, Try.ntmps50
  go_wp2_with (first
    | (go_at_call 56; refine HC.out.mono ?_; rintro e w' ⟨rfl, k, rfl⟩)
    | (at_builtin; apply wpList_append_sl (base := w.heap.size) (Own.lit (w.drewN k) [] (Nat.le_refl _) (by decide)) ((hb3.drewN k).alloc _) x (.tmp 23) (.tmp 27) rfl rfl rfl rfl rfl m HXL.out; (case hsz => omega); (case hbase => simp); intro A2 c2 w2 hown hg hg1; have hb2 := below_append (((below_drewN (Below.refl _ w) k)).alloc (Nat.le_refl _) _) (Own.lit (w.drewN k) [] (Nat.le_refl _) (by decide)) hg (by simp))
    | (go_at_call 35; refine (refframe_any A2 m c2 x _ hown.bs (by omega)).mono ?_; rintro e w3 ⟨A3, c3, rfl, hown3, hb3'⟩))
  have hbel : Below w.heap.size w w3 := hb2.trans (hb3'.mono hb2.size)
  have s1 := run_str c3 hown3.bs
  have s2 := run_str c (hb1.below hbel)
  have hown2 := hown.below hb3'
  have HO2 := Lib.hid hown2
  clear hown2 hown hown3 hg hg1 hb3'
  generalize hS1 : (⟨(frame x).toArray⟩ : ByteArray) = S1 at s1
  generalize hS2 : (⟨y.toArray⟩ : ByteArray) = S2 at s2
  rw [hS1, hS2] at HSQ
  have HS := Lib.hid hS1
  clear hS1 hS2
  go_quiet (fail)
  go_wp2
  go_ret2
  refine ⟨A2, c2, ?_, HO2.out, below_drewN hbel _⟩
  rw [← HSQ.out]
  rfl
/-- First, whatever bytes: its second answer says whether a frame begins here, and then the first is its record. -/
theorem reffirst_any (A : Option Addr) (n c : Nat) (l : List UInt8) (w : World) (hl : Bs w A n l) (hm : n ≤ 1000000) (hc : n ≤ c) :
    Calls Try.prog 50 #[.slice A n c] w fun e w' => ∃ A2 c2 y, e = .returned (.tuple #[.slice A2 y.length c2, .bool (FrameM.first l).isSome]) ∧ (∀ x, FrameM.first l = some x → y = x) ∧ Own w' w.heap.size (.slice A2 y.length c2) y ∧ Below w.heap.size w w' := by
  by_cases h : 4 ≤ n ∧ num l ≤ 60000 ∧ num l + 8 ≤ n
  · obtain ⟨b, o, rfl, _⟩ := hl.2.resolve_left (by omega)
    refine (reffirst_told b o n c l w hl hm hc h.2.1 h.2.2).mono ?_
    rintro e w' ⟨A2, c2, he, ho, hb⟩
    have hxl : ((l.drop 4).take (num l)).length = num l := by rw [List.length_take, List.length_drop, hl.1]; omega
    refine ⟨A2, c2, (l.drop 4).take (num l), by rw [hxl]; exact he, ?_, by rw [hxl]; exact ho, hb⟩
    intro x hx
    unfold FrameM.first at hx
    split at hx
    · exact Option.some.inj hx
    · cases hx
  · have hf : FrameM.first l = none := by
      unfold FrameM.first
      rw [if_neg]
      rw [hl.1]
      exact fun hh => h ⟨by omega, hh.2.1, hh.2.2.1⟩
    refine (reffirst_no A n c l w hl hm h).mono ?_
    rintro e w' ⟨he, hb⟩
    rw [hf]
    exact ⟨none, 0, [], he, (fun _ e => by cases e), Own.nil _ _, hb⟩
end Go.Proofs.Ytiheeajepnpejaa
