/- framed of both packages, walked: records, framed one behind the other. -/
import Derived.Test.YtiheeajepnpejaaTapN
import Derived.Test.YtiheeajepnpejaaRws
import Derived.Test.YtiheeajepnpejaaScan
import Derived.Test.YtiheeajepnpejaaJouMath
namespace Go.Proofs.Ytiheeajepnpejaa
open Go.RowKit TapM FrameM JouM
theorem take_framed (L : List (List UInt8)) {k : Nat} (hk : k < L.length) : framed (L.take (k + 1)) = framed (L.take k) ++ frame L[k] := by
  rw [List.take_succ_eq_append_getElem hk, framed_snoc]
theorem framed_take_le (L : List (List UInt8)) (k : Nat) : (framed (L.take k)).length ≤ (framed L).length := by
  have h : framed L = framed (L.take k) ++ framed (L.drop k) := by rw [← framed_append, List.take_append_drop]
  rw [h, List.length_append]
  omega
/-- Rows of the call's own read as records. -/
theorem Recs.rws {w : World} {base n c : Nat} {A : Option Addr} {L : List (List UInt8)} (h : Recs w base (.slice A n c) L) : Rws w A n L := by
  obtain ⟨A', c', hv⟩ := h.slice
  injection hv with e1 e2 e3
  subst e2
  refine ⟨rfl, ?_⟩
  by_cases h0 : L.length = 0
  · exact .inl h0
  · obtain ⟨g, rfl⟩ := h.addr (by omega)
    refine .inr ⟨g, 0, rfl, fun j hj => ?_⟩
    obtain ⟨A2, d, hc, ho⟩ := h.at_ hj
    exact ⟨A2, d, by rw [Nat.zero_add]; exact hc, ho.bs, ho.room⟩
theorem Rws.at_ {w : World} {A : Option Addr} {n : Nat} {L : List (List UInt8)} (h : Rws w A n L) {j : Nat} (hj : j < n) : ∃ b o A' c' x, A = some ⟨b, o, none⟩ ∧ L[j]? = some x ∧ w.cell? ⟨b, o + j, none⟩ = some (.slice A' x.length c') ∧ Bs w A' x.length x ∧ x.length ≤ c' := by
  obtain ⟨rfl, hA⟩ := h
  obtain ⟨b, o, hA, hc⟩ := hA.resolve_left (by omega)
  obtain ⟨A', c', h1, h2, h3⟩ := hc j hj
  exact ⟨b, o, A', c', _, hA, List.getElem?_eq_getElem hj, h1, h2, h3⟩
set_option maxHeartbeats 1600000 in
theorem framed_any (A : Option Addr) (n c : Nat) (L : List (List UInt8)) (w : World) (hL : Rws w A n L) (hx : ∀ x ∈ L, x.length ≤ 60000) (hK : (framed L).length ≤ 2000000) :
    Calls Try.prog 41 #[.slice A n c] w fun e w' => ∃ A2 c2, e = .returned (.slice A2 (framed L).length c2) ∧ Own w' w.heap.size (.slice A2 (framed L).length c2) (framed L) ∧ Below w.heap.size w w' := by
  have HX := Lib.hid hx
  have hln := hL.1
  have h8 := framed_length_le L
  clear hx
  go_enter Try.func41, Try.ntmps41
  go_wp2
  go_loopw [3, 5, 6, 7, 10] (fun v3 v5 v6 v7 v10 wr => ∃ (k : Nat) (A3 : Option Addr) (c3 K : Nat), k ≤ n ∧ v10 = .int .i64 k ∧ v3 = .slice A3 K c3 ∧ Hid ((framed (L.take k)).length = K) ∧ Own wr w.heap.size (.slice A3 K c3) (framed (L.take k)) ∧ Below w.heap.size w wr) (fun _ _ _ _ v10 _ => n - (intOf v10).toNat)
  case atStart => exact ⟨0, none, 0, 0, by omega, rfl, rfl, rfl, Own.nil _ _, Below.refl _ _⟩
  case round =>
    obtain ⟨k, A3, c3, K, hk, rfl, rfl, hKk, hown, hbel⟩ := hrel
    by_cases hkn : k < n
    · have i0 : (k : Int) < (n : Int) := by omega
      have hkL : k < L.length := by omega
      obtain ⟨b, o, A', c', x, rfl, hxk, h1, h2, h3⟩ := (hL.below hbel).at_ hkn
      have hxm : x ∈ L := List.mem_of_getElem? hxk
      have hx6 := HX.out x hxm
      have hT := take_framed L hkL
      rw [show L[k] = x from by rw [List.getElem?_eq_getElem hkL] at hxk; injection hxk] at hT
      have HT := Lib.hid hT
      have hle := framed_take_le L (k + 1)
      have hKn : (framed (L.take (k + 1))).length = K + (x.length + 8) := by rw [hT, List.length_append, frame_length, hKk.out]
      rw [hKn] at hle
      have HKn := Lib.hid hKn
      clear hT hKn hxk
      generalize hq : x.length = q at *
      clear hq
      go_wp2_with (first
        | (go_at_call 32; refine (frame_any A' q c' x _ h2 (by omega)).mono ?_; rintro e w2 ⟨A2, c2, rfl, hown2, hb2⟩)
        | (at_builtin; apply wpList_append_sl (base := w.heap.size) (hown.below hb2) hown2.bs (framed (L.take (k + 1))) (.tmp 19) (.tmp 20) rfl rfl rfl rfl HT.out.symm (K + (q + 8)) HKn.out; (case hsz => omega); (case hbase => (have := hbel.size; have := hb2.size; omega)); intro A4 c4 w3 hown3 hg3 hg4; have hb3 := below_append (chain hbel hb2) (hown.below hb2) hg3 (by have := hbel.size; have := hb2.size; omega)))
      exact ⟨⟨k + 1, A4, c4, K + (q + 8), by omega, by go_num, rfl, HKn.out, hown3, hb3⟩, by simp [intOf]; omega⟩
    · obtain rfl : k = n := by omega
      have htk : L.take k = L := List.take_of_length_le (by omega)
      rw [htk] at hKk hown
      have hKK := hKk.out
      subst hKK
      go_wp2
      go_ret
      exact ⟨A3, c3, rfl, hown, hbel⟩
set_option maxHeartbeats 1600000 in
theorem refframed_any (A : Option Addr) (n c : Nat) (L : List (List UInt8)) (w : World) (hL : Rws w A n L) (hx : ∀ x ∈ L, x.length ≤ 60000) (hK : (framed L).length ≤ 2000000) :
    Calls Try.prog 43 #[.slice A n c] w fun e w' => ∃ A2 c2, e = .returned (.slice A2 (framed L).length c2) ∧ Own w' w.heap.size (.slice A2 (framed L).length c2) (framed L) ∧ Below w.heap.size w w' := by
  have HX := Lib.hid hx
  have hln := hL.1
  have h8 := framed_length_le L
  clear hx
  go_enter Try.func43, Try.ntmps43
  go_wp2
  go_loopw [3, 4, 5, 6, 9] (fun v3 v4 v5 v6 v9 wr => ∃ (k : Nat) (A3 : Option Addr) (c3 K : Nat), k ≤ n ∧ v9 = .int .i64 k ∧ v3 = .slice A3 K c3 ∧ Hid ((framed (L.take k)).length = K) ∧ Own wr w.heap.size (.slice A3 K c3) (framed (L.take k)) ∧ Below w.heap.size w wr) (fun _ _ _ _ v9 _ => n - (intOf v9).toNat)
  case atStart => exact ⟨0, none, 0, 0, by omega, rfl, rfl, rfl, Own.nil _ _, Below.refl _ _⟩
  case round =>
    obtain ⟨k, A3, c3, K, hk, rfl, rfl, hKk, hown, hbel⟩ := hrel
    by_cases hkn : k < n
    · have i0 : (k : Int) < (n : Int) := by omega
      have hkL : k < L.length := by omega
      obtain ⟨b, o, A', c', x, rfl, hxk, h1, h2, h3⟩ := (hL.below hbel).at_ hkn
      have hxm : x ∈ L := List.mem_of_getElem? hxk
      have hx6 := HX.out x hxm
      have hT := take_framed L hkL
      rw [show L[k] = x from by rw [List.getElem?_eq_getElem hkL] at hxk; injection hxk] at hT
      have HT := Lib.hid hT
      have hle := framed_take_le L (k + 1)
      have hKn : (framed (L.take (k + 1))).length = K + (x.length + 8) := by rw [hT, List.length_append, frame_length, hKk.out]
      rw [hKn] at hle
      have HKn := Lib.hid hKn
      clear hT hKn hxk
      generalize hq : x.length = q at *
      clear hq
      go_wp2_with (first
        | (go_at_call 35; refine (refframe_any A' q c' x _ h2 (by omega)).mono ?_; rintro e w2 ⟨A2, c2, rfl, hown2, hb2⟩)
        | (at_builtin; apply wpList_append_sl (base := w.heap.size) (hown.below hb2) hown2.bs (framed (L.take (k + 1))) (.tmp 20) (.tmp 21) rfl rfl rfl rfl HT.out.symm (K + (q + 8)) HKn.out; (case hsz => omega); (case hbase => (have := hbel.size; have := hb2.size; omega)); intro A4 c4 w3 hown3 hg3 hg4; have hb3 := below_append (chain hbel hb2) (hown.below hb2) hg3 (by have := hbel.size; have := hb2.size; omega)))
      exact ⟨⟨k + 1, A4, c4, K + (q + 8), by omega, by go_num, rfl, HKn.out, hown3, hb3⟩, by simp [intOf]; omega⟩
    · obtain rfl : k = n := by omega
      have htk : L.take k = L := List.take_of_length_le (by omega)
      rw [htk] at hKk hown
      have hKK := hKk.out
      subst hKK
      go_wp2
      go_ret
      exact ⟨A3, c3, rfl, hown, hbel⟩
end Go.Proofs.Ytiheeajepnpejaa
