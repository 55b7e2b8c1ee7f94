/- plain law: no program stands here -/
namespace Go.Proofs.Ytfcialmdediojaa
set_option linter.unusedVariables false
set_option linter.unusedSimpArgs false
/-- one bit of the register of a CRC-32 (reflected) -/
def crcBit (r : Nat) : Nat := if r % 2 = 1 then (r / 2) ^^^ 0xEDB88320 else r / 2
def crcBits : Nat → Nat → Nat
  | 0, r => r
  | k + 1, r => crcBits k (crcBit r)
def crcByte (r : Nat) (c : UInt8) : Nat := crcBits 8 (r ^^^ c.toNat)
def crcL (r : Nat) (l : List UInt8) : Nat := l.foldl crcByte r
/-- of bytes -/
def crcOf (l : List UInt8) : Nat := 4294967295 - crcL 4294967295 l

theorem crcBit_lt {r : Nat} (h : r < 4294967296) : crcBit r < 4294967296 := by
  unfold crcBit; split
  · exact Nat.xor_lt_two_pow (n := 32) (by omega) (by omega)
  · omega
theorem crcBits_lt : ∀ (k : Nat) {r : Nat}, r < 4294967296 → crcBits k r < 4294967296
  | 0, _, h => h
  | k + 1, _, h => crcBits_lt k (crcBit_lt h)
theorem crcByte_lt {r : Nat} (c : UInt8) (h : r < 4294967296) : crcByte r c < 4294967296 :=
  crcBits_lt 8 (Nat.xor_lt_two_pow (n := 32) h (by have := c.toNat_lt; omega))
theorem crcL_lt : ∀ (l : List UInt8) {r : Nat}, r < 4294967296 → crcL r l < 4294967296
  | [], _, h => h
  | c :: l, _, h => crcL_lt l (crcByte_lt c h)

/-- a bit of the sum of two -/
theorem xor_cancel (a b c : Nat) : a ^^^ (b ^^^ (c ^^^ b)) = a ^^^ c := by
  rw [Nat.xor_comm c b, ← Nat.xor_assoc b b c, Nat.xor_self, Nat.zero_xor]
theorem xor_left (a b c : Nat) : a ^^^ (b ^^^ c) = b ^^^ (a ^^^ c) := by
  rw [← Nat.xor_assoc, Nat.xor_comm a b, Nat.xor_assoc]
theorem crcBit_xor (a b : Nat) : crcBit (a ^^^ b) = crcBit a ^^^ crcBit b := by
  unfold crcBit
  have h2 : (a ^^^ b) / 2 = a / 2 ^^^ b / 2 := by
    have := Nat.xor_div_two_pow (a := a) (b := b) (n := 1)
    simpa using this
  have h1 : (a ^^^ b) % 2 = (a % 2 ^^^ b % 2) := by
    have := Nat.xor_mod_two_pow (a := a) (b := b) (n := 1)
    simpa using this
  rw [h2]
  rcases Nat.mod_two_eq_zero_or_one a with ha | ha <;> rcases Nat.mod_two_eq_zero_or_one b with hb | hb <;> rw [ha, hb] at h1
  · rw [if_neg (by rw [h1]; decide), if_neg (by omega), if_neg (by omega)]
  · rw [if_pos (by rw [h1]; decide), if_neg (by omega), if_pos (by omega), Nat.xor_assoc]
  · rw [if_pos (by rw [h1]; decide), if_pos (by omega), if_neg (by omega), Nat.xor_assoc, Nat.xor_assoc, Nat.xor_comm (b / 2)]
  · rw [if_neg (by rw [h1]; decide), if_pos (by omega), if_pos (by omega), Nat.xor_assoc, xor_cancel]
theorem crcBits_xor : ∀ (k a b : Nat), crcBits k (a ^^^ b) = crcBits k a ^^^ crcBits k b
  | 0, _, _ => rfl
  | k + 1, a, b => by simp only [crcBits, crcBit_xor, crcBits_xor k]
theorem crcBits_add : ∀ (k j a : Nat), crcBits (k + j) a = crcBits j (crcBits k a)
  | 0, j, a => by simp [crcBits]
  | k + 1, j, a => by
    have : k + 1 + j = (k + j) + 1 := by omega
    rw [this]; simp only [crcBits, crcBits_add k j]
/-- what is even up to 2^k only shifts -/
theorem crcBits_shift : ∀ (k a : Nat), crcBits k (a * 2 ^ k) = a
  | 0, a => by simp [crcBits]
  | k + 1, a => by
    have : a * 2 ^ (k + 1) = (a * 2 ^ k) * 2 := by rw [Nat.pow_succ]; simp [Nat.mul_assoc]
    have hb : crcBit (a * 2 ^ (k + 1)) = a * 2 ^ k := by
      unfold crcBit
      rw [if_neg (by rw [this]; omega), this]; omega
    simp only [crcBits, hb]; exact crcBits_shift k a
def crcHalf (n : Nat) : Nat := crcBits 4 n
/-- four bits at once -/
theorem crcBits_four (r : Nat) : crcBits 4 r = (r / 16) ^^^ crcHalf (r % 16) := by
  have h : r = ((r / 16) * 2 ^ 4) ^^^ (r % 16) := by
    apply Nat.eq_of_testBit_eq
    intro i
    rw [Nat.testBit_xor, Nat.testBit_mul_two_pow, show (16 : Nat) = 2 ^ 4 from rfl, Nat.testBit_div_two_pow, Nat.testBit_mod_two_pow]
    by_cases hi : i < 4
    · simp [hi, show ¬ 4 ≤ i by omega]
    · simp [hi, show 4 ≤ i by omega]
  have e : crcBits 4 r = crcBits 4 (((r / 16) * 2 ^ 4) ^^^ (r % 16)) := by rw [← h]
  rw [e, crcBits_xor, crcBits_shift]; rfl
theorem crcByte_two (r : Nat) (c : UInt8) : crcByte r c =
    (let x := r ^^^ c.toNat; let y := (x / 16) ^^^ crcHalf (x % 16); (y / 16) ^^^ crcHalf (y % 16)) := by
  show crcBits (4 + 4) _ = _
  rw [crcBits_add, crcBits_four, crcBits_four]
end Go.Proofs.Ytfcialmdediojaa
