/- The walks of the package tributaryref04: each function answers what FrameM says. -/
import Derived.Test.YtiheeajepnpejaaFrmV
namespace Go.Proofs.Ytiheeajepnpejaa
open Go.RowKit FrameM
theorem reffour_any (n : Nat) (hn : n < 4294967296) (w : World) :
    Calls Try.prog 47 #[.int .i64 n] w fun e w' => e = .returned (.slice (some ⟨w.heap.size, 0, none⟩) 4 4) ∧ ∃ cs, Hid (cs = ((four n).map bv).toArray) ∧ w' = w.alloc (.cells cs 5) := by
  have he := Lib.hid (four_cells_eq n hn)
  have i1 : (0 : Int) ≤ (n : Int) := by omega
  go_enter Try.func47, Try.ntmps47
  go_wp2
  go_ret
  refine ⟨rfl, _, rfl, ?_⟩
  rw [he.out, show (n : Int) / 16777216 % 256 = (n : Int) / 16777216 from by omega]
theorem refframe_long (A : Option Addr) (n c : Nat) (hn : 60000 < n) (w : World) :
    Calls Try.prog 35 #[.slice A n c] w fun e w' => e = .returned (.tuple #[.slice none 0 0, .bool false]) ∧ w' = w := by
  go_enter Try.func35, Try.ntmps35
  go_wp2
  go_ret2
  exact ⟨rfl, rfl⟩
set_option maxHeartbeats 800000 in
theorem refframe_any (A : Option Addr) (n c : Nat) (l : List UInt8) (w : World) (hl : Bs w A n l) (hn : n ≤ 60000) :
    Calls Try.prog 35 #[.slice A n c] w fun e w' => ∃ A2 c2, e = .returned (.tuple #[.slice A2 (n + 8) c2, .bool true]) ∧ Own w' w.heap.size (.slice A2 (n + 8) c2) (frame l) ∧ Below w.heap.size w w' := by
  obtain ⟨L, hL⟩ : ∃ L, four n ++ l = L := ⟨_, rfl⟩
  have hLl : L.length = n + 4 := by rw [← hL, List.length_append, four_length, hl.1, Nat.add_comm]
  obtain ⟨F, hF⟩ : ∃ F, L ++ four (CrcM.crc L) = F := ⟨_, rfl⟩
  have hFl : F.length = n + 8 := by rw [← hF, List.length_append, four_length, hLl]
  have hFr : frame l = F := by rw [← hF, ← hL, frame, hl.1]
  rw [hFr]
  have hcl := CrcM.crc_lt L
  have HL := Lib.hid hL; have HLl := Lib.hid hLl; have HF := Lib.hid hF; have HFl := Lib.hid hFl
  clear hL hLl hF hFl hFr
  go_enter Try.func35, Try.ntmps35
  go_wp2_with (first
    | (go_at_call 47; refine (reffour_any _ (by omega) _).mono ?_; rintro e w1 ⟨rfl, cs, hcs, rfl⟩)
    | (at_builtin; apply wpList_append_sl (base := w.heap.size) (own_four hcs (Nat.le_refl _)) (hl.alloc _) L (.tmp 10) (.tmp 11) rfl rfl rfl rfl HL.out (n + 4) HLl.out; (case hsz => omega); (case hbase => simp); intro A2 c2 w2 hown hg hg1; have hb2 := below_append ((Below.refl _ w).alloc (Nat.le_refl _) _) (own_four hcs (Nat.le_refl _)) hg (by simp))
    | (go_at_call 48; refine (refcrc_any A2 (n + 4) c2 L _ hown.bs (by omega)).mono ?_; rintro e w1 ⟨rfl, rfl⟩)
    | (at_builtin; apply wpList_append_sl (base := w.heap.size) (hown.alloc _) (own_four (base := w.heap.size) hcs (by have := hb2.size; omega)).bs F (.tmp 13) (.tmp 17) rfl rfl rfl rfl HF.out (n + 8) HFl.out; (case hsz => omega); (case hbase => (have := hb2.size; simp; omega)); intro A3 c3 w3 hown3 hg3 hg4))
  go_ret2
  exact ⟨A3, c3, rfl, hown3, below_append (hb2.alloc hb2.size _) (hown.alloc _) hg3 (by have := hb2.size; simp; omega)⟩
theorem told_short (A : Option Addr) (n c : Nat) (hn : n < 4) (w : World) :
    Calls Try.prog 56 #[.slice A n c] w fun e w' => e = .returned (.int .i64 (-1)) ∧ w' = w := by
  go_enter Try.func56, Try.ntmps56
  go_wp2
  go_ret
  exact ⟨rfl, rfl⟩
theorem told_num (a b c d : UInt8) : wrap64 (wrap64 (wrap64 (wrap64 (a.toNat : Int) + wrap64 (256 * wrap64 (b.toNat : Int))) + wrap64 (65536 * wrap64 (c.toNat : Int))) + wrap64 (16777216 * wrap64 (d.toNat : Int)))
    = ((a.toNat + 256 * b.toNat + 65536 * c.toNat + 16777216 * d.toNat : Nat) : Int) := by
  have ha := a.toNat_lt; have hb := b.toNat_lt; have hc := c.toNat_lt; have hd := d.toNat_lt
  rw [IntWalk.wrap64_in (a.toNat : Int) (by omega), IntWalk.wrap64_in (b.toNat : Int) (by omega), IntWalk.wrap64_in (c.toNat : Int) (by omega), IntWalk.wrap64_in (d.toNat : Int) (by omega),
    IntWalk.wrap64_in (256 * (b.toNat : Int)) (by omega), IntWalk.wrap64_in (65536 * (c.toNat : Int)) (by omega), IntWalk.wrap64_in (16777216 * (d.toNat : Int)) (by omega),
    IntWalk.wrap64_in ((a.toNat : Int) + 256 * (b.toNat : Int)) (by omega), IntWalk.wrap64_in ((a.toNat : Int) + 256 * (b.toNat : Int) + 65536 * (c.toNat : Int)) (by omega),
    IntWalk.wrap64_in ((a.toNat : Int) + 256 * (b.toNat : Int) + 65536 * (c.toNat : Int) + 16777216 * (d.toNat : Int)) (by omega)]
  omega
theorem told_any (A : Option Addr) (n c : Nat) (l : List UInt8) (w : World) (hl : Bs w A n l) (hn : 4 ≤ n) :
    Calls Try.prog 56 #[.slice A n c] w fun e w' => e = .returned (.int .i64 (num l)) ∧ ∃ k, w' = w.drewN k := by
  obtain ⟨rfl, hA⟩ := hl
  obtain ⟨b, o, rfl, hc⟩ := hA.resolve_left (by omega)
  have h0 := hc 0 (by omega)
  rw [Nat.add_zero] at h0
  have i0 : (0 : Int) < (l.length : Int) := by omega
  have i1 : (1 : Int) < (l.length : Int) := by omega
  have i2 : (2 : Int) < (l.length : Int) := by omega
  have i3 : (3 : Int) < (l.length : Int) := by omega
  have h1 := hc 1 (by omega)
  have h2 := hc 2 (by omega)
  have h3 := hc 3 (by omega)
  clear hc
  go_enter Try.func56, Try.ntmps56
  go_wp2
  go_quiet (fail)
  go_wp2
  go_ret
  refine ⟨?_, nq, rfl⟩
  rw [num_get l hn, ← told_num]
  rfl
theorem first_isSome {l : List UInt8} {n : Nat} (hl : l.length = n) (h1 : num l ≤ 60000) (h2 : num l + 8 ≤ n) : (FrameM.first l).isSome = decide (frame ((l.drop 4).take (num l)) = l.take (8 + num l)) := by
  have hx : ((l.drop 4).take (num l)).length = num l := by simp; omega
  by_cases h : frame ((l.drop 4).take (num l)) = l.take (8 + num l)
  · have hf : FrameM.first l = some ((l.drop 4).take (num l)) := by
      have := first_frame (l := (l.drop 4).take (num l)) (by omega) (l.drop (8 + num l))
      rw [h, List.take_append_drop] at this
      exact this
    rw [hf, decide_eq_true h]; rfl
  · rw [decide_eq_false h]
    cases hf : FrameM.first l with
    | none => rfl
    | some x =>
      exfalso
      obtain ⟨_, e, hxl⟩ := first_some hf
      have hx2 : (l.drop 4).take (num l) = x := by
        have e4 : l = four x.length ++ (x ++ (four (CrcM.crc (four x.length ++ x)) ++ l.drop (8 + x.length))) := by
          rw [frame] at e
          simpa using e
        rw [e4, List.drop_left' (four_length _)]
        rw [← e4, ← hxl, List.take_left' rfl]
      apply h
      rw [hx2, ← hxl]
      conv => rhs; rw [e]
      rw [List.take_left' (by rw [frame_length]; omega)]
/-- A string out of bytes, behind whatever draws. -/
theorem run_str {w : World} {A : Option Addr} {n : Nat} {l : List UInt8} (c : Nat) (h : Bs w A n l) : ∀ k, (convert 22 9 (.slice A n c)).run Try.prog (w.drewN k) = .ok (.string ⟨l.toArray⟩) (w.drewN k) :=
  fun k => run_string_of Try.underlying22 Try.underlying5 Try.underlying9 c (h.drewN k)
theorem str_eq (a b : List UInt8) : ((⟨a.toArray⟩ : ByteArray).toList == (⟨b.toArray⟩ : ByteArray).toList) = decide (a = b) := by
  rw [ByteArray.toList_eq, ByteArray.toList_eq]
  rw [Bool.eq_iff_iff]
  simp
theorem reffirst_no (A : Option Addr) (n c : Nat) (l : List UInt8) (w : World) (hl : Bs w A n l) (hm : n ≤ 1000000) (h1 : ¬ (4 ≤ n ∧ num l ≤ 60000 ∧ num l + 8 ≤ n)) :
    Calls Try.prog 50 #[.slice A n c] w fun e w' => e = .returned (.tuple #[.slice none 0 0, .bool false]) ∧ Below w.heap.size w w' := by
  by_cases h4 : n < 4
  · go_enter Try.func50, Try.ntmps50
    go_wp2_with (go_at_call 56; refine (told_short A n c h4 _).mono ?_; rintro e w' ⟨rfl, rfl⟩)
    go_ret2
    exact ⟨rfl, Below.refl _ _⟩
  · have HC := Lib.hid (told_any A n c l w hl (by omega))
    have hlt := num_lt l
    generalize num l = m at *
    by_cases h2 : m ≤ 60000
    · have h3 : ¬ m + 8 ≤ n := fun h => h1 ⟨by omega, h2, h⟩
      clear h1
      go_enter Try.func50, Try.ntmps50
      go_wp2_with (go_at_call 56; refine HC.out.mono ?_; rintro e w' ⟨rfl, k, rfl⟩)
      go_ret2
      exact ⟨rfl, below_drewN (Below.refl _ w) _⟩
    · clear h1
      go_enter Try.func50, Try.ntmps50
      go_wp2_with (go_at_call 56; refine HC.out.mono ?_; rintro e w' ⟨rfl, k, rfl⟩)
      go_ret2
      exact ⟨rfl, below_drewN (Below.refl _ w) _⟩
end Go.Proofs.Ytiheeajepnpejaa
