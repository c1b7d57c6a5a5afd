/- Numbers as bytes; the sum of bytes (CRC-32): plain laws. -/
namespace Go.Proofs.Ytegogggemmcgdaa
abbrev Bs := List UInt8
/-- a number's bytes, the lowest first -/
def leB : Nat → Nat → Bs
  | _, 0 => []
  | n, k + 1 => UInt8.ofNat n :: leB (n / 256) k
def leN : Bs → Nat
  | [] => 0
  | b :: l => b.toNat + 256 * leN l
theorem leB_length (n k : Nat) : (leB n k).length = k := by
  induction k generalizing n with
  | zero => rfl
  | succ k ih => simp [leB, ih]
theorem leB_succ (n k : Nat) : leB n (k + 1) = leB n k ++ [UInt8.ofNat (n / 256 ^ k)] := by
  induction k generalizing n with
  | zero => simp [leB]
  | succ k ih =>
    rw [leB, ih, leB, List.cons_append, Nat.div_div_eq_div_mul, Nat.pow_succ, Nat.mul_comm 256]
theorem leN_lt (l : Bs) : leN l < 256 ^ l.length := by
  induction l with
  | nil => simp [leN]
  | cons b l ih =>
    have := b.toNat_lt
    simp only [leN, List.length_cons, Nat.pow_succ]
    omega
theorem leN_leB (n k : Nat) : leN (leB n k) = n % 256 ^ k := by
  induction k generalizing n with
  | zero => simp [leB, leN, Nat.mod_one]
  | succ k ih =>
    have e : 256 ^ (k + 1) = 256 * 256 ^ k := by rw [Nat.pow_succ, Nat.mul_comm]
    have e2 : (UInt8.ofNat n).toNat = n % 256 := UInt8.toNat_ofNat'
    rw [leB, leN, ih, e2, e, Nat.mod_mul]
theorem leB_leN (l : Bs) : leB (leN l) l.length = l := by
  induction l with
  | nil => rfl
  | cons b l ih =>
    have := b.toNat_lt
    have h1 : (b.toNat + 256 * leN l) / 256 = leN l := by omega
    have h2 : UInt8.ofNat (b.toNat + 256 * leN l) = b := by
      apply UInt8.toNat_inj.1
      rw [UInt8.toNat_ofNat']
      omega
    rw [leN, List.length_cons, leB, h1, h2, ih]
theorem leN_inj {l k : Bs} (hl : l.length = k.length) (h : leN l = leN k) : l = k := by
  rw [← leB_leN l, ← leB_leN k, h, hl]
theorem leN_drop {l : Bs} {i : Nat} {b : UInt8} (h : l[i]? = some b) : leN (l.drop i) = b.toNat + 256 * leN (l.drop (i + 1)) := by
  have hi : i < l.length := by
    have := List.getElem?_eq_some_iff.1 h
    exact this.1
  rw [List.drop_eq_getElem_cons hi, leN]
  have : l[i] = b := by
    have := List.getElem?_eq_some_iff.1 h
    exact this.2
  rw [this]

/-! ### CRC -/
def poly : Nat := 3988292384
def crc1 (s : Nat) : Nat := (s / 2) ^^^ (poly * (s % 2))
def crc4 (s : Nat) : Nat := crc1 (crc1 (crc1 (crc1 s)))
def crcB (s : Nat) (c : Nat) : Nat := crc4 (crc4 (s ^^^ c))
def crcL (s : Nat) (l : Bs) : Nat := l.foldl (fun s c => crcB s c.toNat) s
def crc (l : Bs) : Nat := 4294967295 - crcL 4294967295 l
theorem xor_lt {a b : Nat} (ha : a < 4294967296) (hb : b < 4294967296) : a ^^^ b < 4294967296 := Nat.xor_lt_two_pow (n := 32) ha hb
theorem crc1_lt {s : Nat} (h : s < 4294967296) : crc1 s < 4294967296 := xor_lt (by omega) (by unfold poly; omega)
theorem crc4_lt {s : Nat} (h : s < 4294967296) : crc4 s < 4294967296 := crc1_lt (crc1_lt (crc1_lt (crc1_lt h)))
theorem crcB_lt {s : Nat} (h : s < 4294967296) (c : UInt8) : crcB s c.toNat < 4294967296 := crc4_lt (crc4_lt (xor_lt h (by have := c.toNat_lt; omega)))
theorem crcL_lt (l : Bs) : ∀ {s : Nat}, s < 4294967296 → crcL s l < 4294967296 := by
  induction l with
  | nil => exact fun h => h
  | cons c l ih => exact fun h => ih (crcB_lt h c)
theorem crc_lt (l : Bs) : crc l < 4294967296 := by unfold crc; omega
theorem xor_div2 (a b : Nat) : (a ^^^ b) / 2 = a / 2 ^^^ b / 2 := by
  have := Nat.shiftRight_xor_distrib (a := a) (b := b) (i := 1)
  simpa [Nat.shiftRight_eq_div_pow] using this
theorem xor_mod2 (a b : Nat) : (a ^^^ b) % 2 = a % 2 ^^^ b % 2 := by
  have := Nat.xor_mod_two_pow (a := a) (b := b) (n := 1)
  simpa using this
theorem crc1_xor (a b : Nat) : crc1 (a ^^^ b) = crc1 a ^^^ crc1 b := by
  unfold crc1
  rw [xor_div2, xor_mod2]
  have key : poly * (a % 2 ^^^ b % 2) = poly * (a % 2) ^^^ poly * (b % 2) := by
    rcases Nat.mod_two_eq_zero_or_one a with ha | ha <;> rcases Nat.mod_two_eq_zero_or_one b with hb | hb <;> simp [ha, hb]
  rw [key]
  simp only [Nat.xor_assoc]
  congr 1
  simp only [← Nat.xor_assoc]
  congr 1
  exact Nat.xor_comm _ _
theorem crc4_xor (a b : Nat) : crc4 (a ^^^ b) = crc4 a ^^^ crc4 b := by simp only [crc4, crc1_xor]
theorem crc1_even (n : Nat) : crc1 (2 * n) = n := by
  unfold crc1
  simp
theorem crc4_16 (n : Nat) : crc4 (16 * n) = n := by
  unfold crc4
  rw [show 16 * n = 2 * (2 * (2 * (2 * n))) by omega, crc1_even, crc1_even, crc1_even, crc1_even]
theorem split16 (s : Nat) : s = 16 * (s / 16) ^^^ s % 16 := by
  have h := Nat.two_pow_add_eq_or_of_lt (i := 4) (b := s % 16) (by omega) (s / 16)
  have h2 : 2 ^ 4 * (s / 16) + s % 16 = s := by omega
  have h3 : (2 ^ 4 * (s / 16)) ^^^ (s % 16) = 2 ^ 4 * (s / 16) ||| s % 16 := by
    apply Nat.eq_of_testBit_eq
    intro i
    rw [Nat.testBit_xor, Nat.testBit_or, Nat.testBit_two_pow_mul]
    by_cases hi : i ≥ 4
    · have : (s % 16).testBit i = false := Nat.testBit_lt_two_pow (Nat.lt_of_lt_of_le (show s % 16 < 2 ^ 4 by omega) (Nat.pow_le_pow_right (by omega) hi))
      simp [this]
    · simp [hi]
  rw [show (16 : Nat) * (s / 16) = 2 ^ 4 * (s / 16) by omega, h3, ← h, h2]
/-- half a byte at a time -/
theorem crc4_half (s : Nat) : crc4 s = s / 16 ^^^ crc4 (s % 16) := by
  conv => lhs; rw [split16 s, crc4_xor, crc4_16]
theorem crc1_inj {a b : Nat} (ha : a < 4294967296) (hb : b < 4294967296) (h : crc1 a = crc1 b) : a = b := by
  have top : ∀ s, s < 4294967296 → (crc1 s).testBit 31 = decide (s % 2 = 1) := by
    intro s hs
    unfold crc1
    rw [Nat.testBit_xor, Nat.testBit_lt_two_pow (show s / 2 < 2 ^ 31 by omega)]
    rcases Nat.mod_two_eq_zero_or_one s with h | h
    · simp [h]
    · rw [h]; decide
  have h1 := top a ha
  rw [h, top b hb] at h1
  have h2 : a % 2 = b % 2 := by
    rcases Nat.mod_two_eq_zero_or_one a with h3 | h3 <;> rcases Nat.mod_two_eq_zero_or_one b with h4 | h4 <;> simp [h3, h4] at h1 ⊢
  unfold crc1 at h
  rw [h2] at h
  have h3 : a / 2 = b / 2 := by
    have := congrArg (· ^^^ (poly * (b % 2))) h
    simpa [Nat.xor_assoc] using this
  omega
theorem crc4_inj {a b : Nat} (ha : a < 4294967296) (hb : b < 4294967296) (h : crc4 a = crc4 b) : a = b :=
  crc1_inj ha hb (crc1_inj (crc1_lt ha) (crc1_lt hb) (crc1_inj (crc1_lt (crc1_lt ha)) (crc1_lt (crc1_lt hb)) (crc1_inj (crc1_lt (crc1_lt (crc1_lt ha))) (crc1_lt (crc1_lt (crc1_lt hb))) h)))
theorem crcB_inj {a b c d : Nat} (ha : a < 4294967296) (hb : b < 4294967296) (hc : c < 256) (hd : d < 256) (h : crcB a c = crcB b d) : a ^^^ c = b ^^^ d := by
  have h1 := xor_lt ha (show c < 4294967296 by omega)
  have h2 := xor_lt hb (show d < 4294967296 by omega)
  exact crc4_inj h1 h2 (crc4_inj (crc4_lt h1) (crc4_lt h2) h)
theorem crcL_inj (l : Bs) : ∀ {a b : Nat}, a < 4294967296 → b < 4294967296 → crcL a l = crcL b l → a = b := by
  induction l with
  | nil => exact fun _ _ h => h
  | cons c l ih =>
    intro a b ha hb h
    have h1 := ih (crcB_lt ha c) (crcB_lt hb c) h
    have h2 := crcB_inj ha hb c.toNat_lt c.toNat_lt h1
    have := congrArg (· ^^^ c.toNat) h2
    simpa [Nat.xor_assoc] using this
theorem crcL_append (s : Nat) (l k : Bs) : crcL s (l ++ k) = crcL (crcL s l) k := by simp [crcL]
theorem crcL_set (l : Bs) (i : Nat) (c d : UInt8) (hi : l[i]? = some d) (hne : c ≠ d) : ∀ {s : Nat}, s < 4294967296 → crcL s (l.set i c) ≠ crcL s l := by
  induction l generalizing i with
  | nil => simp at hi
  | cons b l ih =>
    intro s hs h
    cases i with
    | zero =>
      simp only [List.getElem?_cons_zero, Option.some.injEq] at hi
      subst hi
      simp only [List.set_cons_zero] at h
      have h1 := crcL_inj l (crcB_lt hs c) (crcB_lt hs b) h
      have h2 := crcB_inj hs hs c.toNat_lt b.toNat_lt h1
      have h3 : c.toNat = b.toNat := by
        have := congrArg (s ^^^ ·) h2
        simpa [← Nat.xor_assoc] using this
      exact hne (UInt8.toNat_inj.1 h3)
    | succ i =>
      simp only [List.getElem?_cons_succ] at hi
      simp only [List.set_cons_succ] at h
      exact ih i hi (crcB_lt hs b) h
theorem crc_set {l : Bs} {i : Nat} {c d : UInt8} (hi : l[i]? = some d) (hne : c ≠ d) : crc (l.set i c) ≠ crc l := by
  intro h
  have h1 := crcL_set l i c d hi hne (s := 4294967295) (by omega)
  have h2 := crcL_lt l (s := 4294967295) (by omega)
  have h3 := crcL_lt (l.set i c) (s := 4294967295) (by omega)
  unfold crc at h
  omega
def crcI (s : Nat) : Nat → Nat
  | 0 => s
  | k + 1 => crc1 (crcI s k)
theorem crcI_lt {s : Nat} (h : s < 4294967296) : ∀ k, crcI s k < 4294967296
  | 0 => h
  | k + 1 => crc1_lt (crcI_lt h k)
theorem crc4_eq (s : Nat) : crc4 s = crc1 (crc1 (crc1 (crc1 s))) := rfl
theorem crcB_two (s b : Nat) : crcB s b = crc4 (crc4 (s ^^^ b)) := rfl
theorem crcB_eq (s b : Nat) : crcB s b = crcI (s ^^^ b) 8 := rfl
theorem crcI_succ (s k : Nat) : crcI s (k + 1) = crc1 (crcI s k) := rfl
theorem crcI_zero (s : Nat) : crcI s 0 = s := rfl
theorem crc_def (l : Bs) : crc l = 4294967295 - crcL 4294967295 l := rfl
theorem crcL_nil (s : Nat) : crcL s [] = s := rfl
theorem crc1_odd {s : Nat} (h : s % 2 = 1) : crc1 s = s / 2 ^^^ 3988292384 := by unfold crc1; rw [h]; rfl
theorem crc1_ev {s : Nat} (h : s % 2 = 0) : crc1 s = s / 2 := by unfold crc1; rw [h]; simp
theorem crcL_take {l : Bs} {i : Nat} {b : UInt8} (s : Nat) (h : l[i]? = some b) : crcL s (l.take (i + 1)) = crcB (crcL s (l.take i)) b.toNat := by
  rw [List.take_add_one, h, crcL_append]
  rfl
attribute [irreducible] crc1 crc4 crcB crcL crcI crc
end Go.Proofs.Ytegogggemmcgdaa
