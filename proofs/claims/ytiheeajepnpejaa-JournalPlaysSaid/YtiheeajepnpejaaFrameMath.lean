/- Plain facts on frames: a record's frame stands at the beginning of bytes or it doesn't; which frames stand one behind the other is determined. No program in sight. -/
import Derived.Test.YtiheeajepnpejaaCrcMath
namespace Go.Proofs.Ytiheeajepnpejaa.FrameM
open Go.Proofs.Ytiheeajepnpejaa.CrcM (crc crc_lt)

/-- A number as four bytes, the least first. -/
def four (n : Nat) : List UInt8 := [UInt8.ofNat n, UInt8.ofNat (n / 256), UInt8.ofNat (n / 65536), UInt8.ofNat (n / 16777216)]
/-- The number of the first four bytes. -/
def num (l : List UInt8) : Nat := (l.getD 0 0).toNat + 256 * (l.getD 1 0).toNat + 65536 * (l.getD 2 0).toNat + 16777216 * (l.getD 3 0).toNat
/-- A record's frame. -/
def frame (l : List UInt8) : List UInt8 := four l.length ++ l ++ four (crc (four l.length ++ l))
/-- What is in the frame that bytes begin with. -/
def first (b : List UInt8) : Option (List UInt8) :=
  if 8 ≤ b.length ∧ num b ≤ 60000 ∧ num b + 8 ≤ b.length ∧ crc (b.take (4 + num b)) = num (b.drop (4 + num b)) then some ((b.drop 4).take (num b)) else none
/-- Records, framed one behind the other. -/
def framed (xs : List (List UInt8)) : List UInt8 := (xs.map frame).flatten
/-- Bytes as one frame: what is in it, and which error. -/
def one (b : List UInt8) : List UInt8 × Nat :=
  if 8 ≤ b.length ∧ num b ≤ 60000 ∧ num b + 8 = b.length then
    match first b with
    | some x => (x, 0)
    | none => ([], 11)
  else ([], 2)

theorem four_length (n : Nat) : (four n).length = 4 := rfl
theorem ofNat_toNat (n : Nat) : (UInt8.ofNat n).toNat = n % 256 := by simp
theorem num_four {n : Nat} (h : n < 4294967296) (r : List UInt8) : num (four n ++ r) = n := by
  unfold num four
  simp only [List.cons_append, List.nil_append, List.getD_cons_zero, List.getD_cons_succ, ofNat_toNat]
  omega
theorem num_lt (l : List UInt8) : num l < 4294967296 := by
  unfold num
  have h0 := (l.getD 0 0).toNat_lt; have h1 := (l.getD 1 0).toNat_lt; have h2 := (l.getD 2 0).toNat_lt; have h3 := (l.getD 3 0).toNat_lt
  omega
theorem ofNat_of_toNat (b : UInt8) {n : Nat} (h : n % 256 = b.toNat) : UInt8.ofNat n = b := by
  apply UInt8.toNat_inj.1
  rw [ofNat_toNat, h]
theorem four_num4 (a b c d : UInt8) (r : List UInt8) : four (num (a :: b :: c :: d :: r)) = [a, b, c, d] := by
  have h0 := a.toNat_lt; have h1 := b.toNat_lt; have h2 := c.toNat_lt; have h3 := d.toNat_lt
  unfold num four
  simp only [List.getD_cons_zero, List.getD_cons_succ]
  rw [ofNat_of_toNat a (by omega), ofNat_of_toNat b (by omega), ofNat_of_toNat c (by omega), ofNat_of_toNat d (by omega)]
theorem split4 {l : List UInt8} (h : 4 ≤ l.length) : ∃ a b c d r, l = a :: b :: c :: d :: r := by
  match l, h with
  | a :: b :: c :: d :: r, _ => exact ⟨a, b, c, d, r, rfl⟩
theorem four_num {l : List UInt8} (h : 4 ≤ l.length) : four (num l) = l.take 4 := by
  obtain ⟨a, b, c, d, r, rfl⟩ := split4 h
  rw [four_num4]; rfl
theorem num_inj {l m : List UInt8} (hl : l.length = 4) (hm : m.length = 4) (h : num l = num m) : l = m := by
  have h1 := four_num (l := l) (by omega)
  have h2 := four_num (l := m) (by omega)
  rw [List.take_of_length_le (by omega)] at h1 h2
  rw [← h1, ← h2, h]
theorem frame_length (l : List UInt8) : (frame l).length = l.length + 8 := by
  simp [frame, four_length]; omega
theorem num_take {k : Nat} (hk : 4 ≤ k) (l : List UInt8) : num (l.take k) = num l := by
  unfold num
  simp only [List.getD_eq_getElem?_getD, List.getElem?_take]
  rw [if_pos (by omega), if_pos (by omega), if_pos (by omega), if_pos (by omega)]
theorem num_append {l : List UInt8} (h : 4 ≤ l.length) (r : List UInt8) : num (l ++ r) = num l := by
  obtain ⟨a, b, c, d, t, rfl⟩ := split4 h
  rfl
theorem num_frame (l r : List UInt8) (h : l.length < 4294967296) : num (frame l ++ r) = l.length := by
  unfold frame
  rw [List.append_assoc, List.append_assoc]
  exact num_four h _
theorem four_crc (m : List UInt8) : crc m < 4294967296 := crc_lt m
/-- A frame at the beginning is told. -/
theorem first_frame {l : List UInt8} (h : l.length ≤ 60000) (r : List UInt8) : first (frame l ++ r) = some l := by
  have hn := num_frame l r (by omega)
  unfold first
  rw [hn]
  have e : frame l ++ r = (four l.length ++ l) ++ (four (crc (four l.length ++ l)) ++ r) := by unfold frame; simp
  have ht : (frame l ++ r).take (4 + l.length) = four l.length ++ l := by
    rw [e]; exact List.take_left' (by simp [four_length])
  have hd : (frame l ++ r).drop (4 + l.length) = four (crc (four l.length ++ l)) ++ r := by
    rw [e]; exact List.drop_left' (by simp [four_length])
  rw [ht, hd, num_four (four_crc _), if_pos ⟨by rw [List.length_append, frame_length]; omega, h, by rw [List.length_append, frame_length]; omega, rfl⟩]
  congr 1
  have e2 : frame l ++ r = four l.length ++ (l ++ (four (crc (four l.length ++ l)) ++ r)) := by rw [e]; simp
  rw [e2, List.drop_left' (four_length _), List.take_left' rfl]
/-- What is told stands there as a frame. -/
theorem first_some {b x : List UInt8} (h : first b = some x) : x.length ≤ 60000 ∧ b = frame x ++ b.drop (8 + x.length) ∧ x.length = num b := by
  unfold first at h
  split at h
  case isFalse => cases h
  case isTrue hc =>
    obtain ⟨h8, hm, hl, hs⟩ := hc
    injection h with h
    have hx : x.length = num b := by rw [← h]; simp; omega
    refine ⟨by omega, ?_, hx⟩
    have hf : four x.length = b.take 4 := by rw [hx]; exact four_num (by omega)
    have hfx : four x.length ++ x = b.take (4 + num b) := by
      rw [hf, ← h, List.take_add]
    have hsum : four (crc (four x.length ++ x)) = (b.drop (4 + num b)).take 4 := by
      rw [hfx, hs]
      exact four_num (by simp; omega)
    unfold frame
    rw [hsum, hfx, hx]
    have e1 : b.drop (8 + num b) = (b.drop (4 + num b)).drop 4 := by
      rw [List.drop_drop]
      congr 1
      omega
    rw [e1, List.append_assoc, List.take_append_drop, List.take_append_drop]
theorem first_iff {b x : List UInt8} : first b = some x ↔ x.length ≤ 60000 ∧ ∃ r, b = frame x ++ r := by
  constructor
  · intro h
    obtain ⟨h1, h2, _⟩ := first_some h
    exact ⟨h1, _, h2⟩
  · rintro ⟨h, r, rfl⟩
    exact first_frame h r
/-- A frame that is cut off is none. -/
theorem first_cut (l : List UInt8) (hl : l.length < 4294967296) {k : Nat} (hk : k < (frame l).length) : first ((frame l).take k) = none := by
  unfold first
  rw [frame_length] at hk
  rw [if_neg]
  rintro ⟨h8, _, h9, _⟩
  have hlen : ((frame l).take k).length = k := by rw [List.length_take, frame_length]; omega
  rw [hlen] at h8 h9
  rw [num_take (by omega)] at h9
  have := num_frame l [] hl
  rw [List.append_nil] at this
  omega
theorem first_nil : first [] = none := by simp [first]

theorem framed_nil : framed [] = [] := rfl
theorem framed_cons (x : List UInt8) (xs : List (List UInt8)) : framed (x :: xs) = frame x ++ framed xs := by simp [framed]
theorem framed_append (xs ys : List (List UInt8)) : framed (xs ++ ys) = framed xs ++ framed ys := by simp [framed]
theorem framed_snoc (xs : List (List UInt8)) (x : List UInt8) : framed (xs ++ [x]) = framed xs ++ frame x := by simp [framed]
theorem framed_length_le (xs : List (List UInt8)) : 8 * xs.length ≤ (framed xs).length := by
  induction xs with
  | nil => simp [framed]
  | cons x xs ih => rw [framed_cons, List.length_append, frame_length, List.length_cons]; omega

/-- Bytes are these records' frames, and behind them none stands. -/
def Parse (b : List UInt8) (xs : List (List UInt8)) (r : List UInt8) : Prop := (∀ x ∈ xs, x.length ≤ 60000) ∧ b = framed xs ++ r ∧ first r = none
theorem Parse.unique : ∀ {xs ys : List (List UInt8)} {b r s : List UInt8}, Parse b xs r → Parse b ys s → xs = ys ∧ r = s
  | [], [], b, r, s, h, k => ⟨rfl, by
      obtain ⟨_, h, _⟩ := h; obtain ⟨_, k, _⟩ := k
      rw [framed_nil, List.nil_append] at h k
      rw [← h, ← k]⟩
  | [], y :: ys, b, r, s, h, k => by
      obtain ⟨_, h, hn⟩ := h; obtain ⟨ky, k, _⟩ := k
      rw [framed_nil, List.nil_append] at h
      subst h
      rw [k, framed_cons, List.append_assoc, first_frame (ky y (by simp))] at hn
      cases hn
  | x :: xs, [], b, r, s, h, k => by
      obtain ⟨hx, h, _⟩ := h; obtain ⟨_, k, kn⟩ := k
      rw [framed_nil, List.nil_append] at k
      subst k
      rw [h, framed_cons, List.append_assoc, first_frame (hx x (by simp))] at kn
      cases kn
  | x :: xs, y :: ys, b, r, s, h, k => by
      obtain ⟨hx, h, hn⟩ := h; obtain ⟨ky, k, kn⟩ := k
      rw [framed_cons, List.append_assoc] at h k
      have e1 := first_frame (hx x (by simp)) (framed xs ++ r)
      have e2 := first_frame (ky y (by simp)) (framed ys ++ s)
      rw [← h] at e1
      rw [← k, e1] at e2
      injection e2 with e2
      subst e2
      have e3 := List.append_cancel_left (h.symm.trans k)
      obtain ⟨e4, e5⟩ := Parse.unique (b := framed xs ++ r) ⟨fun z hz => hx z (by simp [hz]), rfl, hn⟩ ⟨fun z hz => ky z (by simp [hz]), e3, kn⟩
      exact ⟨by rw [e4], e5⟩
theorem Parse.mk_nil (b : List UInt8) (h : first b = none) : Parse b [] b := ⟨by simp, by simp [framed], h⟩
theorem Parse.cons_ {b x : List UInt8} {xs : List (List UInt8)} {r t : List UInt8} (h : first b = some x) (hb : b = frame x ++ t) (ht : Parse t xs r) : Parse b (x :: xs) r := by
  obtain ⟨h1, _, _⟩ := first_some h
  refine ⟨?_, ?_, ht.2.2⟩
  · intro z hz
    rcases List.mem_cons.1 hz with rfl | hz
    · exact h1
    · exact ht.1 z hz
  · rw [hb, framed_cons, ht.2.1, List.append_assoc]
theorem parse_exists : ∀ (n : Nat) (b : List UInt8), b.length ≤ n → ∃ xs r, Parse b xs r := by
  intro n
  induction n with
  | zero =>
    intro b hb
    have : b = [] := List.eq_nil_of_length_eq_zero (by omega)
    subst this
    exact ⟨[], [], Parse.mk_nil _ first_nil⟩
  | succ n ih =>
    intro b hb
    cases hf : first b with
    | none => exact ⟨[], b, Parse.mk_nil b hf⟩
    | some x =>
      obtain ⟨_, h2, _⟩ := first_some hf
      have hl : b.length = x.length + 8 + (b.drop (8 + x.length)).length := by
        have := congrArg List.length h2
        rw [List.length_append, frame_length] at this
        exact this
      obtain ⟨xs, r, hp⟩ := ih (b.drop (8 + x.length)) (by omega)
      exact ⟨x :: xs, r, hp.cons_ hf h2⟩

/-! ### One frame -/
theorem one_frame {l : List UInt8} (h : l.length ≤ 60000) : one (frame l) = (l, 0) := by
  have hn := num_frame l [] (by omega)
  rw [List.append_nil] at hn
  have hf := first_frame h []
  rw [List.append_nil] at hf
  unfold one
  rw [hn, if_pos ⟨by rw [frame_length]; omega, h, by rw [frame_length]⟩, hf]
theorem one_cut (l : List UInt8) (h : l.length < 4294967296) {k : Nat} (hk : k < (frame l).length) : one ((frame l).take k) = ([], 2) := by
  have hn := num_frame l [] h
  rw [List.append_nil] at hn
  unfold one
  rw [frame_length] at hk
  rw [if_neg]
  rintro ⟨h8, _, h9⟩
  have hlen : ((frame l).take k).length = k := by rw [List.length_take, frame_length]; omega
  rw [hlen] at h8 h9
  rw [num_take (by omega), hn] at h9
  omega
theorem one_more (l : List UInt8) (h : l.length < 4294967296) {m : List UInt8} (hm : m ≠ []) : one (frame l ++ m) = ([], 2) := by
  have hn := num_frame l m h
  unfold one
  rw [if_neg]
  rintro ⟨_, _, h9⟩
  rw [hn, List.length_append, frame_length] at h9
  exact hm (List.eq_nil_of_length_eq_zero (by omega))
/-- A frame of which one byte is another one is none. -/
theorem one_turned {l : List UInt8} {i : Nat} (hi : i < (frame l).length) (by_ : UInt8) (hb : by_ ≠ 0) :
    (one ((frame l).set i ((frame l)[i] ^^^ by_))).2 ≠ 0 ∧ (one ((frame l).set i ((frame l)[i] ^^^ by_))).1 = [] := by
  have hne : (frame l)[i] ^^^ by_ ≠ (frame l)[i] := by
    intro he
    have : (frame l)[i] ^^^ ((frame l)[i] ^^^ by_) = (frame l)[i] ^^^ (frame l)[i] := by rw [he]
    rw [← UInt8.xor_assoc, UInt8.xor_self, UInt8.zero_xor] at this
    exact hb this
  have hyl : (frame l)[i]? = some (frame l)[i] := List.getElem?_eq_getElem hi
  generalize (frame l)[i] = v at hne hyl ⊢
  generalize hy : v ^^^ by_ = y at hne ⊢
  have hlen : ((frame l).set i y).length = l.length + 8 := by rw [List.length_set, frame_length]
  cases hf : first ((frame l).set i y) with
  | none =>
    unfold one
    split
    · rw [hf]; simp
    · simp
  | some x =>
    obtain ⟨h1, h2, h3⟩ := first_some hf
    unfold one
    by_cases hc : num ((frame l).set i y) + 8 = ((frame l).set i y).length
    · exfalso
      rw [hlen] at hc
      have hxl : x.length = l.length := by omega
      have hfx : (frame l).set i y = frame x := by
        have := h2
        rw [List.drop_of_length_le (by rw [hlen]; omega), List.append_nil] at this
        exact this
      have hi' : i < l.length + 8 := by rw [frame_length] at hi; exact hi
      have hget : ∀ j, (frame x)[j]? = if i = j then some y else (frame l)[j]? := by
        intro j
        rw [← hfx, List.getElem?_set]
        by_cases he : i = j
        · rw [if_pos he, if_pos he, if_pos hi]
        · rw [if_neg he, if_neg he]
      have hfx4 : frame x = four l.length ++ (x ++ four (crc (four l.length ++ x))) := by unfold frame; rw [hxl, List.append_assoc]
      have hfl4 : frame l = four l.length ++ (l ++ four (crc (four l.length ++ l))) := by unfold frame; rw [List.append_assoc]
      by_cases hi4 : i < 4
      · have e := hget i
        rw [if_pos rfl, hfx4, List.getElem?_append_left (by rw [four_length]; exact hi4)] at e
        rw [hfl4, List.getElem?_append_left (by rw [four_length]; exact hi4)] at hyl
        rw [e] at hyl
        injection hyl with hyl
        exact hne (by rw [hyl])
      · by_cases hin : i < 4 + l.length
        · -- the record has turned, the sum has not
          have hs : four (crc (four l.length ++ x)) = four (crc (four l.length ++ l)) := by
            apply List.ext_getElem?
            intro j
            by_cases hj : j < 4
            · have e := hget (4 + l.length + j)
              rw [if_neg (by omega)] at e
              have ex : (frame x)[4 + l.length + j]? = (four (crc (four l.length ++ x)))[j]? := by
                unfold frame
                rw [hxl, List.getElem?_append_right (by simp [four_length]; omega)]
                congr 1; simp [four_length]; omega
              have el : (frame l)[4 + l.length + j]? = (four (crc (four l.length ++ l)))[j]? := by
                unfold frame
                rw [List.getElem?_append_right (by simp [four_length])]
                congr 1; simp [four_length]
              rw [← ex, ← el, e]
            · rw [List.getElem?_eq_none (by rw [four_length]; omega), List.getElem?_eq_none (by rw [four_length]; omega)]
          have hcrc : crc (four l.length ++ x) = crc (four l.length ++ l) := by
            have := congrArg num hs
            have e1 := num_four (four_crc (four l.length ++ x)) []
            have e2 := num_four (four_crc (four l.length ++ l)) []
            rw [List.append_nil] at e1 e2
            rw [e1, e2] at this
            exact this
          -- x is l with one byte turned
          have hk : i - 4 < l.length := by omega
          have hli : v = l[i - 4] := by
            have : (frame l)[i]? = l[i - 4]? := by
              rw [hfl4, List.getElem?_append_right (by rw [four_length]; omega), four_length, List.getElem?_append_left hk]
            rw [hyl, List.getElem?_eq_getElem hk] at this
            injection this
          have hxs : x = l.set (i - 4) y := by
            apply List.ext_getElem?
            intro j
            rw [List.getElem?_set]
            by_cases hj : j < l.length
            · have e := hget (4 + j)
              rw [hfx4, List.getElem?_append_right (by rw [four_length]; omega), four_length, List.getElem?_append_left (by omega), show 4 + j - 4 = j from by omega] at e
              rw [e]
              have el : (frame l)[4 + j]? = l[j]? := by
                rw [hfl4, List.getElem?_append_right (by rw [four_length]; omega), four_length, List.getElem?_append_left (by omega), show 4 + j - 4 = j from by omega]
              rw [el]
              by_cases hij : i = 4 + j
              · rw [if_pos hij, if_pos (by omega), if_pos hk]
              · rw [if_neg hij, if_neg (by omega)]
            · rw [List.getElem?_eq_none (by omega), if_neg (by omega), List.getElem?_eq_none (by omega)]
          have hsplit : l = l.take (i - 4) ++ [l[i - 4]] ++ l.drop (i - 4 + 1) := by
            rw [List.append_assoc, List.singleton_append, List.getElem_cons_drop, List.take_append_drop]
          have hsplit2 : l.set (i - 4) y = l.take (i - 4) ++ [y] ++ l.drop (i - 4 + 1) := by
            rw [List.set_eq_take_append_cons_drop, if_pos hk, List.append_assoc, List.singleton_append]
          have hturn : y = l[i - 4] ^^^ by_ := by rw [← hy, hli]
          have := CrcM.crc_other (four l.length ++ l.take (i - 4)) (l.drop (i - 4 + 1)) l[i - 4] by_ hb
          rw [← hturn] at this
          apply this
          rw [show four l.length ++ List.take (i - 4) l ++ [y] ++ List.drop (i - 4 + 1) l = four l.length ++ l.set (i - 4) y from by rw [hsplit2]; simp]
          rw [show four l.length ++ List.take (i - 4) l ++ [l[i - 4]] ++ List.drop (i - 4 + 1) l = four l.length ++ l from by
            conv => rhs; rw [hsplit]
            simp]
          rw [← hxs, hcrc]
        · -- the sum has turned, the record has not
          have hxl' : x = l := by
            apply List.ext_getElem?
            intro j
            by_cases hj : j < l.length
            · have e := hget (4 + j)
              rw [if_neg (by omega), hfx4, hfl4, List.getElem?_append_right (by rw [four_length]; omega), four_length, List.getElem?_append_left (by omega), show 4 + j - 4 = j from by omega, List.getElem?_append_right (by rw [four_length]; omega), four_length, List.getElem?_append_left (by omega), show 4 + j - 4 = j from by omega] at e
              exact e
            · rw [List.getElem?_eq_none (by omega), List.getElem?_eq_none (by omega)]
          have e := hget i
          rw [if_pos rfl, hxl', hyl] at e
          injection e with e
          exact hne e.symm
    · rw [if_neg (fun h => hc h.2.2)]; simp
end Go.Proofs.Ytiheeajepnpejaa.FrameM
