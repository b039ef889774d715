/- The law FrameBack of layer 4, walked: it answers true, whatever records, wherever the last frame is cut. -/
import Derived.Test.YtcgdkfhfchkdlaaFrmS
import Derived.Test.YtcgdkfhfchkdlaaRws
namespace Go.Proofs.Ytcgdkfhfchkdlaa
open Go.RowKit FrameM
theorem framed_le (L : List (List UInt8)) (h : ∀ x ∈ L, x.length ≤ 3000) : (framed L).length ≤ 3008 * L.length := by
  induction L with
  | nil => simp [framed]
  | cons x L ih =>
    have h1 := h x (by simp)
    have h2 := ih fun y hy => h y (by simp [hy])
    rw [framed_cons, List.length_append, frame_length, List.length_cons]
    omega
theorem parse_back (L : List (List UInt8)) (h : ∀ x ∈ L, x.length ≤ 3000) (l : List UInt8) (hl : l.length ≤ 3000) {j : Nat} (hj : j < (frame l).length) : Parse (framed L ++ (frame l).take j) L ((frame l).take j) :=
  ⟨fun x hx => Nat.le_trans (h x hx) (by omega), rfl, first_cut l (by omega) hj⟩
theorem take_next (L : List (List UInt8)) {k : Nat} (hk : k < L.length) : framed (L.take (k + 1)) = framed (L.take k) ++ frame L[k] := by
  rw [List.take_succ_eq_append_getElem hk, framed_snoc]
theorem Bs.head {w : World} {b o n : Nat} {l : List UInt8} (h : Bs w (some ⟨b, o, none⟩) n l) {k : Nat} (hk : k ≤ n) : Bs w (some ⟨b, o, none⟩) k (l.take k) := by
  have := h.cut (k := 0) (by omega) k (by omega) (fun _ => ⟨b, o, rfl⟩) (some ⟨b, o, none⟩) (fun b' o' e _ => by rw [Nat.add_zero]; exact e)
  rw [List.drop_zero] at this
  exact this
set_option maxHeartbeats 3200000 in
set_option maxRecDepth 100000 in
theorem frameBack_law (A : Option Addr) (n c : Nat) (L : List (List UInt8)) (B : Option Addr) (m d : Nat) (l : List UInt8) (cut : Nat) (w : World) (hL : Rws w A n L) (hl : Bs w B m l) (_ : m ≤ d) (hcut : cut < 65536) :
    Calls Try.prog 15 #[.slice A n c, .slice B m d, .int .u16 cut] w fun e w' => e = .returned (.bool true) ∧ Below w.heap.size w w' := by
  by_cases hn : n ≤ 20
  · by_cases hm : m ≤ 3000
    · obtain ⟨j, hj⟩ : ∃ j : Nat, (cut : Int) % ((m : Int) + 8) = j := ⟨cut % (m + 8), by rw [Int.natCast_emod]; rfl⟩
      have hjl : j < m + 8 := by
        have := Int.emod_lt_of_pos (cut : Int) (b := (m : Int) + 8) (by omega)
        omega
      go_enter Try.func15, Try.ntmps15
      go_wp2_with (go_at_call 40; refine (awake04_any _).mono ?_; rintro e w1 ⟨rfl, hb1⟩)
      go_loopw [7, 32] (fun v7 v wr => ∃ (k : Nat) (A7 : Option Addr) (c7 K : Nat), k ≤ n ∧ v = .int .i64 k ∧ v7 = .slice A7 K c7 ∧ Hid ((framed (L.take k)).length = K) ∧ Hid (∀ x ∈ L.take k, x.length ≤ 3000) ∧ Own wr w.heap.size (.slice A7 K c7) (framed (L.take k)) ∧ Below w.heap.size w wr) (fun _ v _ => n - (intOf v).toNat)
      case atStart => exact ⟨0, none, 0, 0, by omega, rfl, rfl, rfl, (fun x hx => absurd hx (by simp)), Own.nil _ _, hb1⟩
      case round =>
        obtain ⟨k, A7, c7, K, hk, rfl, rfl, hK, hlen, hown, hbel⟩ := hrel
        by_cases hkn : k < n
        · have i0 : (k : Int) < (n : Int) := by omega
          have hkL : k < L.length := by rw [hL.1]; exact hkn
          obtain ⟨b, o, rfl, hcL⟩ := hL.2.resolve_left (by omega)
          obtain ⟨A', c', hc1, hc2, hc3⟩ := hcL k hkL
          have hc1' := cell_below hbel hc1
          have hc2' := hc2.below hbel
          by_cases h3 : L[k].length ≤ 3000
          · have HT := Lib.hid (take_next L hkL)
            have hx3 : Hid (∀ x ∈ L.take (k + 1), x.length ≤ 3000) := by
              intro x hx
              rw [List.take_succ_eq_append_getElem hkL] at hx
              rcases List.mem_append.1 hx with hx | hx
              · exact hlen.out x hx
              · simp at hx; subst hx; exact h3
            generalize L[k] = x at *
            have HTl : Hid ((framed (L.take (k + 1))).length = K + (x.length + 8)) := by
              show _ = _
              rw [HT.out, List.length_append, frame_length, hK.out]
            have hkk := framed_le _ hlen.out
            rw [hK.out, List.length_take] at hkk
            clear hc1 hc2 hcL
            generalize hq : x.length = q at *
            go_wp2_with (first
              | (go_at_call 41; refine (frame_any A' q c' x _ hc2' (by omega)).mono ?_; rintro e w2 ⟨A2, c2, rfl, hown2, hb2⟩)
              | (at_builtin; apply wpList_append_sl (base := w.heap.size) (hown.below hb2) hown2.bs (framed (L.take (k + 1))) (.tmp 51) (.tmp 52) rfl rfl rfl rfl HT.out.symm (K + (q + 8)) HTl.out; (case hsz => omega); (case hbase => (have := hbel.size; have := hb2.size; omega)); intro A3 c3 w3 hown3 hg3 hg4; have hb3 := below_append (chain hbel hb2) (hown.below hb2) hg3 (by have := hbel.size; have := hb2.size; omega)))
            exact ⟨⟨k + 1, A3, c3, K + (q + 8), by omega, by go_num, rfl, HTl, hx3, hown3, hb3⟩, by simp [intOf]; omega⟩
          · generalize L[k] = x at *
            clear hc1 hc2 hcL
            generalize hq : x.length = q at *
            go_wp2
            go_ret
            exact ⟨rfl, hbel⟩
        · obtain rfl : k = n := by omega
          have htk : L.take k = L := List.take_of_length_le (by rw [hL.1]; omega)
          rw [htk] at hK hlen hown
          have i0 : ¬ (k : Int) < (k : Int) := by omega
          have hKb := framed_le _ hlen.out
          rw [hK.out, hL.1] at hKb
          have hP := parse_back L hlen.out l (by rw [hl.1]; omega) (j := j) (by rw [frame_length, hl.1]; exact hjl)
          obtain ⟨F, hF⟩ : ∃ F, frame l = F := ⟨_, rfl⟩
          have hFl : F.length = m + 8 := by rw [← hF, frame_length, hl.1]
          rw [hF] at hP
          obtain ⟨G, hG⟩ : ∃ G, framed L ++ F.take j = G := ⟨_, rfl⟩
          have hGl : G.length = K + j := by rw [← hG, List.length_append, hK.out, List.length_take, hFl]; omega
          rw [hG] at hP
          have HF := Lib.hid (fun w hl => frame_any B m d l w hl (by omega))
          rw [hF] at HF
          have HS := Lib.hid (fun A c w hb hc => scan_any A (K + j) c G w hb (by omega) hc hP)
          rw [hK.out, hL.1] at HS
          have HG := Lib.hid hG
          have HGl := Lib.hid hGl
          have HFl := Lib.hid hFl
          have h8 : (((m : Int) + 8) == 0) = false := beq_eq_false_iff_ne.2 (by omega)
          have h9 : (((m : Int) + 8) != ((m : Int) + 8)) = false := by simp
          clear hP hF hFl hG hGl htk
          go_wp2_with (first
            | (go_at_call 41; refine (HF.out wr (hl.below hbel)).mono ?_; rintro e w2 ⟨A2, c2, rfl, hown2, hb2⟩; obtain ⟨g, rfl, hg1, hg2⟩ := hown2.addr (by omega); have hcap := hown2.cap; have k1 : (j : Int) ≤ (c2 : Int) := by omega)
            | (at_builtin; apply wpList_append_sl (base := w.heap.size) (hown.below hb2) (Bs.head hown2.bs (k := j) (by omega)) G (.tmp 73) (.tmp 80) rfl rfl rfl rfl HG.out (K + j) HGl.out; (case hsz => omega); (case hbase => (have := hbel.size; have := hb2.size; omega)); intro A3 c3 w3 hown3 hg3 hg4; have hb3 := below_append (chain hbel hb2) (hown.below hb2) hg3 (by have := hbel.size; have := hb2.size; omega))
            | (go_at_call 45; refine (HS.out _ _ _ hown3.bs hown3.cap).mono ?_; rintro e w4 ⟨A4, c4, rfl, hrec, hb4⟩))
          have hb : Below w.heap.size w w4 := chain hb3 hb4
          have hL4 := hL.below hb
          have hlk := hL.1
          have i9 : (k : Int) ≤ 20 := by omega
          clear HF HS h8 h9 hown hown2 hown3 hg3 hg4 hb3 hb4 hL
          go_loopw [97] (fun v wr => ∃ q : Nat, q ≤ k ∧ v = .int .i64 q ∧ ∃ m, wr = w4.drewN m) (fun v _ => k - (intOf v).toNat)
          case atStart => exact ⟨0, by omega, rfl, 0, rfl⟩
          case round =>
            obtain ⟨q, hq, rfl, m', rfl⟩ := hrel
            by_cases hqk : q < k
            · obtain ⟨g4, rfl⟩ := hrec.addr (by omega)
              obtain ⟨b, o, rfl, hcL⟩ := hL4.2.resolve_left (by omega)
              have hqL : q < L.length := by rw [hlk]; exact hqk
              obtain ⟨B2, d2, hc2, ho2⟩ := hrec.at_ hqL
              obtain ⟨B3, d3, hc3, ho3, _⟩ := hcL q hqL
              have s1 := run_str d2 ho2.bs
              have s2 := run_str d3 ho3
              have i0 : (q : Int) < (k : Int) := by omega
              generalize hS : (⟨L[q].toArray⟩ : ByteArray) = S at s1 s2
              have b1 : (S.toList != S.toList) = false := by simp
              clear hS ho2 ho3 hcL
              generalize L[q].length = t at *
              go_wp2
              go_quiet (fail)
              go_wp2
              exact ⟨⟨q + 1, by omega, by go_num, m' + nq, rfl⟩, by simp [intOf]; omega⟩
            · go_wp2
              go_ret
              exact ⟨rfl, below_drewN hb _⟩
    · go_enter Try.func15, Try.ntmps15
      go_wp2_with (first
        | (go_at_call 40; have hb0 := hb1; refine (awake04_any _).mono ?_; rintro e w2 ⟨rfl, hb2⟩)
        | (go_at_call 40; refine (awake04_any _).mono ?_; rintro e w1 ⟨rfl, hb1⟩))
      go_ret
      exact ⟨rfl, chain hb1 hb2⟩
  · go_enter Try.func15, Try.ntmps15
    go_wp2_with (first
      | (go_at_call 40; have hb0 := hb1; refine (awake04_any _).mono ?_; rintro e w2 ⟨rfl, hb2⟩)
      | (go_at_call 40; refine (awake04_any _).mono ?_; rintro e w1 ⟨rfl, hb1⟩))
    go_ret
    exact ⟨rfl, chain hb1 hb2⟩
end Go.Proofs.Ytcgdkfhfchkdlaa
