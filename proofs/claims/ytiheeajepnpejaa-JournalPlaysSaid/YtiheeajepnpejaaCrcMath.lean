/- Plain facts on the sum of 32 bits: one bit's stp is linear and one to one; the sum by bytes is the sum by bits, mirrored. No program in sight. -/
namespace Go.Proofs.Ytiheeajepnpejaa.CrcM

def poly : Nat := 2197175160
def ones : Nat := 4294967295
/-- One bit goes out at the lower end. -/
def stp (c : Nat) : Nat := (c / 2) ^^^ (if c % 2 = 1 then poly else 0)
def stps : Nat → Nat → Nat
  | 0, c => c
  | n + 1, c => stps n (stp c)
/-- A byte goes in. -/
def byte (c b : Nat) : Nat := stps 8 (c ^^^ b)
def run (c : Nat) (l : List UInt8) : Nat := l.foldl (fun c b => byte c b.toNat) c
def crc (l : List UInt8) : Nat := run ones l ^^^ ones

theorem stp_lt {c : Nat} (h : c < 2 ^ 32) : stp c < 2 ^ 32 := by
  unfold stp
  refine Nat.xor_lt_two_pow (by omega) ?_
  split <;> decide
theorem stps_lt (n : Nat) : ∀ {c : Nat}, c < 2 ^ 32 → stps n c < 2 ^ 32 := by
  induction n with
  | zero => exact fun h => h
  | succ n ih => exact fun h => ih (stp_lt h)
theorem byte_lt {c b : Nat} (hc : c < 2 ^ 32) (hb : b < 2 ^ 32) : byte c b < 2 ^ 32 := stps_lt 8 (Nat.xor_lt_two_pow hc hb)
theorem u8_lt (b : UInt8) : b.toNat < 2 ^ 32 := Nat.lt_trans b.toNat_lt (by decide)
theorem run_lt (l : List UInt8) : ∀ {c : Nat}, c < 2 ^ 32 → run c l < 2 ^ 32 := by
  induction l with
  | nil => exact fun h => h
  | cons b l ih => exact fun h => ih (byte_lt h (u8_lt b))
theorem crc_lt (l : List UInt8) : crc l < 2 ^ 32 := Nat.xor_lt_two_pow (run_lt l (by decide)) (by decide)

theorem xor_four (a b c d : Nat) : (a ^^^ b) ^^^ (c ^^^ d) = (a ^^^ c) ^^^ (b ^^^ d) := by
  rw [Nat.xor_assoc, Nat.xor_assoc, ← Nat.xor_assoc b c d, Nat.xor_comm b c, Nat.xor_assoc c b d]
theorem stp_xor (a b : Nat) : stp (a ^^^ b) = stp a ^^^ stp b := by
  have hm := @Nat.xor_mod_two_eq_one a b
  unfold stp
  rw [Nat.xor_div_two, xor_four]
  congr 1
  by_cases h1 : a % 2 = 1 <;> by_cases h2 : b % 2 = 1
  · rw [if_pos h1, if_pos h2, if_neg (fun h => (hm.1 h) ⟨fun _ => h2, fun _ => h1⟩)]; simp
  · rw [if_pos h1, if_neg h2, if_pos (hm.2 (fun h => h2 (h.1 h1)))]; simp
  · rw [if_neg h1, if_pos h2, if_pos (hm.2 (fun h => h1 (h.2 h2)))]; simp
  · rw [if_neg h1, if_neg h2, if_neg (fun h => (hm.1 h) ⟨fun x => absurd x h1, fun x => absurd x h2⟩)]; simp
theorem stps_xor (n : Nat) : ∀ a b : Nat, stps n (a ^^^ b) = stps n a ^^^ stps n b := by
  induction n with
  | zero => exact fun _ _ => rfl
  | succ n ih => intro a b; simp only [stps, stp_xor, ih]
theorem byte_xor (c d a b : Nat) : byte (c ^^^ d) (a ^^^ b) = byte c a ^^^ byte d b := by
  unfold byte; rw [xor_four, stps_xor]
theorem stp_zero : stp 0 = 0 := by decide
theorem stps_zero (n : Nat) : stps n 0 = 0 := by
  induction n with
  | zero => rfl
  | succ n ih => simp only [stps, stp_zero, ih]
theorem stp_ne {c : Nat} (h : c < 2 ^ 32) (hc : c ≠ 0) : stp c ≠ 0 := by
  intro h0
  unfold stp at h0
  by_cases hm : c % 2 = 1
  · rw [if_pos hm] at h0
    have : (c / 2 ^^^ poly).testBit 31 = true := by
      rw [Nat.testBit_xor, Nat.testBit_lt_two_pow (x := c / 2) (by omega)]; decide
    rw [h0] at this
    simp at this
  · rw [if_neg hm, Nat.xor_zero] at h0
    omega
theorem stps_ne (n : Nat) : ∀ {c : Nat}, c < 2 ^ 32 → c ≠ 0 → stps n c ≠ 0 := by
  induction n with
  | zero => exact fun _ h => h
  | succ n ih => exact fun h hc => ih (stp_lt h) (stp_ne h hc)
theorem stps_add (m n : Nat) : ∀ c : Nat, stps (m + n) c = stps n (stps m c) := by
  induction m with
  | zero => intro c; rw [Nat.zero_add]; rfl
  | succ m ih => intro c; rw [Nat.succ_add]; simp only [stps, ih]

/-! ### Two texts of one length -/
theorem run_xor : ∀ (l m : List UInt8), l.length = m.length → ∀ c d : Nat, run (c ^^^ d) (List.zipWith (· ^^^ ·) l m) = run c l ^^^ run d m
  | [], [], _, c, d => rfl
  | a :: l, b :: m, h, c, d => by
    have ih := run_xor l m (by simpa using h) (byte c a.toNat) (byte d b.toNat)
    simp only [run, List.zipWith_cons_cons, List.foldl_cons] at ih ⊢
    rw [UInt8.toNat_xor, byte_xor]
    exact ih
theorem xor_self_mid (a b : Nat) : (a ^^^ b) ^^^ b = a := by rw [Nat.xor_assoc, Nat.xor_self, Nat.xor_zero]
/-- The sums of two texts of one length differ as their difference's bare run. -/
theorem crc_xor (l m : List UInt8) (h : l.length = m.length) : crc l ^^^ crc m = run 0 (List.zipWith (· ^^^ ·) l m) := by
  have := run_xor l m h ones ones
  rw [Nat.xor_self] at this
  unfold crc
  rw [this, xor_four, Nat.xor_self, Nat.xor_zero]
theorem crc_affine (a b c : List UInt8) (hb : b.length = a.length) (hc : c.length = a.length) :
    crc (List.zipWith (· ^^^ ·) (List.zipWith (· ^^^ ·) a b) c) = crc a ^^^ crc b ^^^ crc c := by
  have h1 := run_xor a b hb.symm ones ones
  have h2 := run_xor (List.zipWith (· ^^^ ·) a b) c (by simp [List.length_zipWith]; omega) (ones ^^^ ones) ones
  rw [Nat.xor_self, Nat.zero_xor] at h2
  rw [Nat.xor_self] at h1
  unfold crc
  rw [h2, h1]
  rw [xor_four (run ones a) ones (run ones b) ones, Nat.xor_self, Nat.xor_zero, Nat.xor_assoc]

theorem run_append (c : Nat) (l m : List UInt8) : run c (l ++ m) = run (run c l) m := by unfold run; rw [List.foldl_append]
theorem run_zeros (n : Nat) : run 0 (List.replicate n 0) = 0 := by
  induction n with
  | zero => rfl
  | succ n ih =>
    rw [List.replicate_succ]
    show run (byte 0 (0 : UInt8).toNat) _ = 0
    rw [show byte 0 (0 : UInt8).toNat = 0 from by simp [byte, stps_zero]]
    exact ih
theorem run_zeros_ne (n : Nat) : ∀ {c : Nat}, c < 2 ^ 32 → c ≠ 0 → run c (List.replicate n 0) ≠ 0 := by
  induction n with
  | zero => exact fun _ h => h
  | succ n ih =>
    intro c h hc
    rw [List.replicate_succ]
    show run (byte c (0 : UInt8).toNat) _ ≠ 0
    have e : byte c (0 : UInt8).toNat = stps 8 c := by simp [byte]
    rw [e]
    exact ih (stps_lt 8 h) (stps_ne 8 h hc)
/-- A byte that stands higher comes down. -/
theorem stp_even (a : Nat) : stp (2 * a) = a := by
  unfold stp
  rw [if_neg (by omega), Nat.xor_zero]
  omega
theorem stps_up (n : Nat) : ∀ a : Nat, stps n (2 ^ n * a) = a := by
  induction n with
  | zero => intro a; simp [stps]
  | succ n ih =>
    intro a
    rw [show 2 ^ (n + 1) * a = 2 * (2 ^ n * a) from by rw [Nat.pow_succ, Nat.mul_comm (2 ^ n) 2, Nat.mul_assoc]]
    simp only [stps, stp_even, ih]
theorem byte_up (n x b : Nat) : byte (stps n x) b = stps (n + 8) (x ^^^ (2 ^ n * b)) := by
  rw [stps_add, stps_xor, stps_up]; rfl
theorem four_up (b0 b1 b2 b3 : UInt8) : run 0 [b0, b1, b2, b3] = stps 32 (b0.toNat ^^^ (2 ^ 8 * b1.toNat) ^^^ (2 ^ 16 * b2.toNat) ^^^ (2 ^ 24 * b3.toNat)) := by
  show byte (byte (byte (byte 0 b0.toNat) b1.toNat) b2.toNat) b3.toNat = _
  have h0 : byte 0 b0.toNat = stps 8 b0.toNat := by simp [byte]
  rw [h0, byte_up 8, byte_up 16, byte_up 24]
theorem xor_disjoint {a b n : Nat} (ha : a < 2 ^ n) : a ^^^ (2 ^ n * b) = 2 ^ n * b + a := by
  apply Nat.eq_of_testBit_eq
  intro i
  rw [Nat.testBit_xor, Nat.testBit_two_pow_mul_add b ha, Nat.testBit_two_pow_mul]
  by_cases h : i < n
  · rw [if_pos h]; simp [show ¬ n ≤ i from by omega]
  · rw [if_neg h, Nat.testBit_lt_two_pow (Nat.lt_of_lt_of_le ha (Nat.pow_le_pow_right (by decide) (by omega)))]
    simp [show n ≤ i from by omega]
theorem four_ne (b0 b1 b2 b3 : UInt8) (h : ¬ (b0 = 0 ∧ b1 = 0 ∧ b2 = 0 ∧ b3 = 0)) : run 0 [b0, b1, b2, b3] ≠ 0 := by
  have h0 := b0.toNat_lt; have h1 := b1.toNat_lt; have h2 := b2.toNat_lt; have h3 := b3.toNat_lt
  rw [four_up, xor_disjoint (n := 8) h0, xor_disjoint (n := 16) (by omega), xor_disjoint (n := 24) (by omega)]
  refine stps_ne 32 (by omega) fun h' => h ?_
  have e : ∀ b : UInt8, b.toNat = 0 → b = 0 := fun b hb => UInt8.toNat_inj.1 (by simpa using hb)
  exact ⟨e _ (by omega), e _ (by omega), e _ (by omega), e _ (by omega)⟩
/-- Four bytes of which one at least is another one: another sum. -/
theorem crc_burst (p q : List UInt8) (a0 a1 a2 a3 b0 b1 b2 b3 : UInt8) (h : ¬ (b0 = 0 ∧ b1 = 0 ∧ b2 = 0 ∧ b3 = 0)) :
    crc (p ++ [a0 ^^^ b0, a1 ^^^ b1, a2 ^^^ b2, a3 ^^^ b3] ++ q) ≠ crc (p ++ [a0, a1, a2, a3] ++ q) := by
  intro he
  have hx := crc_xor (p ++ [a0 ^^^ b0, a1 ^^^ b1, a2 ^^^ b2, a3 ^^^ b3] ++ q) (p ++ [a0, a1, a2, a3] ++ q) (by simp)
  rw [he, Nat.xor_self] at hx
  have hz : ∀ l : List UInt8, List.zipWith (· ^^^ ·) l l = List.replicate l.length 0 := by
    intro l
    induction l with
    | nil => rfl
    | cons a l ih => simp only [List.zipWith_cons_cons, ih, List.length_cons, List.replicate_succ, UInt8.xor_self]
  have hs : ∀ a b : UInt8, (a ^^^ b) ^^^ a = b := by intro a b; rw [UInt8.xor_comm a b, UInt8.xor_assoc, UInt8.xor_self, UInt8.xor_zero]
  rw [List.zipWith_append (by simp), List.zipWith_append (by simp), hz p, hz q] at hx
  simp only [List.zipWith_cons_cons, List.zipWith_nil_left, hs] at hx
  rw [run_append, run_append, run_zeros] at hx
  exact run_zeros_ne _ (run_lt _ (by decide)) (four_ne b0 b1 b2 b3 h) hx.symm
theorem one_ne (b : UInt8) (h : b ≠ 0) : run 0 [b] ≠ 0 := by
  have e : run 0 [b] = stps 8 b.toNat := by show byte 0 b.toNat = _; simp [byte]
  rw [e]
  refine stps_ne 8 (u8_lt b) fun h' => h (UInt8.toNat_inj.1 (by simpa using h'))
/-- One byte that is another one: another sum. -/
theorem crc_other (p q : List UInt8) (a b : UInt8) (h : b ≠ 0) : crc (p ++ [a ^^^ b] ++ q) ≠ crc (p ++ [a] ++ q) := by
  intro he
  have hx := crc_xor (p ++ [a ^^^ b] ++ q) (p ++ [a] ++ q) (by simp)
  rw [he, Nat.xor_self] at hx
  have hz : ∀ l : List UInt8, List.zipWith (· ^^^ ·) l l = List.replicate l.length 0 := by
    intro l
    induction l with
    | nil => rfl
    | cons a l ih => simp only [List.zipWith_cons_cons, ih, List.length_cons, List.replicate_succ, UInt8.xor_self]
  have hs : ∀ a b : UInt8, (a ^^^ b) ^^^ a = b := by intro a b; rw [UInt8.xor_comm a b, UInt8.xor_assoc, UInt8.xor_self, UInt8.xor_zero]
  rw [List.zipWith_append (by simp), List.zipWith_append (by simp), hz p, hz q] at hx
  simp only [List.zipWith_cons_cons, List.zipWith_nil_left, hs] at hx
  rw [run_append, run_append, run_zeros] at hx
  exact run_zeros_ne _ (run_lt _ (by decide)) (one_ne b h) hx.symm

/-! ### The mirrored road -/
def rpoly : Nat := 517762881
/-- One bit x goes in at the upper end. -/
def rstep (r x : Nat) : Nat := (2 * r % 2 ^ 32) ^^^ (if r / 2 ^ 31 ≠ x % 2 then rpoly else 0)
def rsteps : Nat → Nat → Nat → Nat
  | 0, r, _ => r
  | n + 1, r, x => rsteps n (rstep r x) (x / 2)
def rrun (r : Nat) (l : List UInt8) : Nat := l.foldl (fun r b => rsteps 8 r b.toNat) r
/-- The mirror's rounds. -/
def mir : Nat → Nat → Nat → Nat
  | 0, _, out => out
  | n + 1, r, out => mir n (r / 2) (2 * out + r % 2)
/-- r is c, its 32 bits in the other order. -/
def Mir (r c : Nat) : Prop := r < 2 ^ 32 ∧ c < 2 ^ 32 ∧ ∀ i, i < 32 → c.testBit i = r.testBit (31 - i)
theorem mir_bits (n : Nat) : ∀ (r out i : Nat), (mir n r out).testBit i = if i < n then r.testBit (n - 1 - i) else out.testBit (i - n) := by
  induction n with
  | zero => intro r out i; simp [mir]
  | succ n ih =>
    intro r out i
    rw [mir, ih]
    by_cases h1 : i < n
    · rw [if_pos h1, if_pos (by omega), Nat.testBit_div_two]
      congr 1; omega
    · rw [if_neg h1]
      by_cases h2 : i = n
      · subst h2
        rw [if_pos (by omega)]
        simp [Nat.testBit_zero, Nat.add_mod]
      · rw [if_neg (by omega)]
        obtain ⟨k, rfl⟩ : ∃ k, i = n + 1 + k := ⟨i - (n + 1), by omega⟩
        rw [show n + 1 + k - n = k + 1 from by omega, show n + 1 + k - (n + 1) = k from by omega, Nat.testBit_succ]
        congr 1; omega
theorem mir_lt (n : Nat) : ∀ (r out m : Nat), out < 2 ^ m → mir n r out < 2 ^ (m + n) := by
  induction n with
  | zero => intro r out m h; exact h
  | succ n ih =>
    intro r out m h
    rw [mir, show m + (n + 1) = (m + 1) + n from by omega]
    refine ih _ _ (m + 1) ?_
    rw [Nat.pow_succ]; omega
theorem Mir.eq {r c : Nat} (h : Mir r c) : mir 32 r 0 = c := by
  have hl := mir_lt 32 r 0 0 (by decide)
  apply Nat.eq_of_testBit_eq
  intro i
  rw [mir_bits]
  by_cases hi : i < 32
  · rw [if_pos hi, h.2.2 i hi]
  · rw [if_neg hi, Nat.testBit_lt_two_pow (x := c) (Nat.lt_of_lt_of_le h.2.1 (Nat.pow_le_pow_right (by decide) (by omega)))]
    simp
theorem poly_mir (i : Nat) (hi : i < 32) : poly.testBit i = rpoly.testBit (31 - i) := by
  have h : ∀ i : Fin 32, poly.testBit i.1 = rpoly.testBit (31 - i.1) := by decide
  exact h ⟨i, hi⟩
theorem Mir.stp {r c : Nat} (h : Mir r c) (x : Nat) : Mir (rstep r x) (stp (c ^^^ (x % 2))) := by
  obtain ⟨hr, hc, hb⟩ := h
  have hx : x % 2 < 2 ^ 32 := by omega
  refine ⟨?_, stp_lt (Nat.xor_lt_two_pow hc hx), fun i hi => ?_⟩
  · unfold rstep
    refine Nat.xor_lt_two_pow (Nat.mod_lt _ (by decide)) ?_
    split <;> decide
  · have h0 := hb 0 (by omega)
    rw [Nat.testBit_zero] at h0
    have htop : r.testBit 31 = decide (r / 2 ^ 31 = 1) := by
      rw [Nat.testBit_eq_decide_div_mod_eq]
      have : r / 2 ^ 31 < 2 := by omega
      rw [Nat.mod_eq_of_lt this]
    rw [htop] at h0
    have hcond : ((c ^^^ x % 2) % 2 = 1) ↔ (r / 2 ^ 31 ≠ x % 2) := by
      have hm := @Nat.xor_mod_two_eq_one c (x % 2)
      have h2 : r / 2 ^ 31 < 2 := by omega
      have hd : c % 2 = 1 ↔ r / 2 ^ 31 = 1 := by simpa using h0
      rw [hm]
      omega
    have hl : ((c ^^^ x % 2) / 2) = c / 2 := by
      rw [Nat.xor_div_two, show x % 2 / 2 = 0 from by omega, Nat.xor_zero]
    unfold CrcM.stp rstep
    rw [hl, Nat.testBit_xor, Nat.testBit_xor, Nat.testBit_div_two]
    have hm : (2 * r % 2 ^ 32).testBit (31 - i) = (c.testBit (i + 1)) := by
      rw [Nat.testBit_mod_two_pow]
      by_cases h31 : i = 31
      · subst h31
        rw [Nat.testBit_lt_two_pow (x := c) (by omega)]
        simp [Nat.testBit_zero]
      · rw [hb (i + 1) (by omega)]
        obtain ⟨k, hk⟩ : ∃ k, 31 - i = k + 1 := ⟨30 - i, by omega⟩
        rw [hk, Nat.testBit_succ, show 2 * r / 2 = r from by omega, show 31 - (i + 1) = k from by omega]
        simp; omega
    rw [hm]
    congr 1
    by_cases hq : r / 2 ^ 31 ≠ x % 2
    · rw [if_pos hq, if_pos (hcond.2 hq), poly_mir i hi]
    · rw [if_neg hq, if_neg (fun h => hq (hcond.1 h))]; simp
/-- Bit by bit, or the byte at once. -/
def bits : Nat → Nat → Nat → Nat
  | 0, c, _ => c
  | n + 1, c, x => bits n (stp (c ^^^ (x % 2))) (x / 2)
theorem bits_steps (n : Nat) : ∀ (c x : Nat), x < 2 ^ n → bits n c x = stps n (c ^^^ x) := by
  induction n with
  | zero => intro c x h; simp [bits, stps, show x = 0 from by omega]
  | succ n ih =>
    intro c x h
    rw [bits, ih _ _ (by rw [Nat.pow_succ] at h; omega)]
    rw [stps]
    congr 1
    have e : c ^^^ x = (c ^^^ (x % 2)) ^^^ (2 * (x / 2)) := by
      have hd : x % 2 ^^^ (2 ^ 1 * (x / 2)) = 2 ^ 1 * (x / 2) + x % 2 := xor_disjoint (n := 1) (by omega)
      rw [Nat.xor_assoc]
      congr 1
      have : x = 2 ^ 1 * (x / 2) + x % 2 := by omega
      rw [← hd] at this
      simpa using this
    rw [e, stp_xor (c ^^^ (x % 2)) (2 * (x / 2)), stp_even]
theorem Mir.stps (n : Nat) : ∀ {r c : Nat}, Mir r c → ∀ x, Mir (rsteps n r x) (bits n c x) := by
  induction n with
  | zero => exact fun h _ => h
  | succ n ih => exact fun h x => ih (h.stp x) (x / 2)
theorem Mir.run (l : List UInt8) : ∀ {r c : Nat}, Mir r c → Mir (rrun r l) (run c l) := by
  induction l with
  | nil => exact fun h => h
  | cons b l ih =>
    intro r c h
    refine ih ?_
    have := h.stps 8 b.toNat
    rw [bits_steps 8 c b.toNat b.toNat_lt] at this
    exact this
theorem Mir.ones : Mir ones ones := ⟨by decide, by decide, fun i hi => by
  have h : ∀ i : Fin 32, CrcM.ones.testBit i.1 = CrcM.ones.testBit (31 - i.1) := by decide
  exact h ⟨i, hi⟩⟩
theorem Mir.xor {r c s d : Nat} (h : Mir r c) (k : Mir s d) : Mir (r ^^^ s) (c ^^^ d) :=
  ⟨Nat.xor_lt_two_pow h.1 k.1, Nat.xor_lt_two_pow h.2.1 k.2.1, fun i hi => by rw [Nat.testBit_xor, Nat.testBit_xor, h.2.2 i hi, k.2.2 i hi]⟩
/-- The document's road gives the same sum. -/
theorem ref_crc (l : List UInt8) : mir 32 (rrun ones l ^^^ ones) 0 = crc l := ((Mir.ones.run l).xor Mir.ones).eq
end Go.Proofs.Ytiheeajepnpejaa.CrcM
