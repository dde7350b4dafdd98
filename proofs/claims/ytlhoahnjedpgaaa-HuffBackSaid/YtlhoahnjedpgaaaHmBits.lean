/- Plain mathematics of layer 8: a code laid as bits (no program in sight). -/
import Derived.Test.YtlhoahnjedpgaaaHmFollow
namespace Go.Proofs.Ytlhoahnjedpgaaa.Hm

/-- the bit of a code at a place, the highest first -/
def tbit (c L k : Nat) : Nat := c / 2 ^ (L - 1 - k) % 2
/-- the first bits of a code, the first the lowest -/
def le (c L : Nat) : Nat → Nat
  | 0 => 0
  | k + 1 => le c L k + tbit c L k * 2 ^ k
theorem tbit_le (c L k : Nat) : tbit c L k ≤ 1 := by unfold tbit; omega
theorem le_lt (c L k : Nat) : le c L k < 2 ^ k := by
  induction k with
  | zero => simp [le]
  | succ k ih =>
    have h := tbit_le c L k
    rw [le, Nat.pow_succ]
    rcases (by omega : tbit c L k = 0 ∨ tbit c L k = 1) with e | e <;> rw [e] <;> omega
theorem le_bit (c L j k : Nat) (h : j < k) : le c L k / 2 ^ j % 2 = tbit c L j := by
  induction k with
  | zero => omega
  | succ k ih =>
    rw [le]
    rcases Nat.lt_or_ge j k with h' | h'
    · have e : tbit c L k * 2 ^ k = 2 ^ j * (2 * (tbit c L k * 2 ^ (k - j - 1))) := by
        have : 2 ^ k = 2 ^ j * (2 * 2 ^ (k - j - 1)) := by
          rw [← Nat.pow_succ', ← Nat.pow_add]; congr 1; omega
        rw [this]
        generalize tbit c L k = t; generalize 2 ^ (k - j - 1) = u; generalize 2 ^ j = v
        rw [Nat.mul_left_comm t v, Nat.mul_left_comm t 2 u]
      rw [e, Nat.add_mul_div_left _ _ (Nat.two_pow_pos j), Nat.add_mul_mod_self_left]
      exact ih h'
    · obtain rfl : j = k := by omega
      have := le_lt c L j
      have h1 := tbit_le c L j
      rw [Nat.add_mul_div_right _ _ (Nat.two_pow_pos j), Nat.div_eq_of_lt this, Nat.zero_add]
      omega
def lo (c L k : Nat) : UInt8 := UInt8.ofNat (le c L k)
def hi (c L k : Nat) : UInt8 := UInt8.ofNat (le c L k / 256)
theorem le_16 (c L k : Nat) (h : k ≤ 16) : le c L k < 65536 := Nat.lt_of_lt_of_le (le_lt c L k) (Nat.pow_le_pow_right (n := 2) (j := 16) (by omega) h)
theorem bit_of (c L k j : Nat) (more : List UInt8) (hj : j < k) (hk : k ≤ 16) : bitOf ([lo c L k, hi c L k] ++ more) j = tbit c L j := by
  have h16 := le_16 c L k hk
  rw [← le_bit c L j k hj]
  unfold bitOf
  rcases Nat.lt_or_ge j 8 with h | h
  · rw [show j / 8 = 0 by omega, show j % 8 = j by omega]
    show (lo c L k).toNat / 2 ^ j % 2 = _
    rw [lo, UInt8.toNat_ofNat']
    generalize le c L k = x
    have e : x = 256 * (x / 256) + x % 256 := by omega
    have e2 : 256 = 2 ^ j * (2 * 2 ^ (7 - j)) := by rw [← Nat.pow_succ', ← Nat.pow_add, show j + (7 - j).succ = 8 by omega]
    conv => rhs; rw [e, Nat.add_comm, e2, Nat.mul_assoc, Nat.add_mul_div_left _ _ (Nat.two_pow_pos j), Nat.mul_assoc, Nat.add_mul_mod_self_left, ← e2]
  · rw [show j / 8 = 1 by omega]
    show (hi c L k).toNat / 2 ^ (j % 8) % 2 = _
    rw [hi, UInt8.toNat_ofNat']
    generalize le c L k = x at *
    rw [show (2 : Nat) ^ 8 = 256 from rfl, Nat.mod_eq_of_lt (show x / 256 < 256 by omega), show (256 : Nat) = 2 ^ 8 from rfl, Nat.div_div_eq_div_mul, ← Nat.pow_add, show 8 + j % 8 = j by omega]
theorem pv_bits (c L : Nat) (more : List UInt8) (hc : c < 2 ^ L) (h15 : L ≤ 15) : ∀ n, n ≤ L → pv ([lo c L L, hi c L L] ++ more) 0 n = c / 2 ^ (L - n) := by
  intro n
  induction n with
  | zero => intro _; rw [pv, Nat.sub_zero, Nat.div_eq_of_lt hc]
  | succ n ih =>
    intro h
    rw [pv, ih (by omega), Nat.zero_add, bit_of c L L n more (by omega) (by omega), tbit, show L - (n + 1) = L - 1 - n by omega, show L - n = (L - 1 - n) + 1 by omega, Nat.pow_succ, ← Nat.div_div_eq_div_mul]
    omega
theorem lo_low (c L k : Nat) (h : k < 8) : (lo c L (k + 1)).toNat = (lo c L k).toNat + tbit c L k * 2 ^ k ∧ (lo c L k).toNat < 2 ^ k ∧ hi c L (k + 1) = hi c L k := by
  have h1 := le_lt c L k
  have h2 := le_lt c L (k + 1)
  have h3 : 2 ^ (k + 1) ≤ 2 ^ 8 := Nat.pow_le_pow_right (by omega) (by omega)
  have h4 : 2 ^ k ≤ 2 ^ 8 := Nat.pow_le_pow_right (by omega) (by omega)
  have e8 : (2 : Nat) ^ 8 = 256 := rfl
  rw [e8] at h3 h4
  refine ⟨?_, ?_, ?_⟩
  · rw [lo, lo, UInt8.toNat_ofNat', UInt8.toNat_ofNat', e8, Nat.mod_eq_of_lt (by omega), Nat.mod_eq_of_lt (by omega)]; rfl
  · rw [lo, UInt8.toNat_ofNat', e8, Nat.mod_eq_of_lt (by omega)]; exact h1
  · unfold hi; rw [Nat.div_eq_of_lt (show le c L (k + 1) < 256 by omega), Nat.div_eq_of_lt (show le c L k < 256 by omega)]
theorem hi_high (c L k : Nat) (h : 8 ≤ k) (h16 : k < 16) : (hi c L (k + 1)).toNat = (hi c L k).toNat + tbit c L k * 2 ^ (k - 8) ∧ (hi c L k).toNat < 2 ^ (k - 8) ∧ lo c L (k + 1) = lo c L k := by
  have h1 := le_lt c L k
  have h2 := le_16 c L (k + 1) (by omega)
  have h3 := le_16 c L k (by omega)
  have e8 : (2 : Nat) ^ 8 = 256 := rfl
  have e : 2 ^ k = 256 * 2 ^ (k - 8) := by rw [← e8, ← Nat.pow_add, show 8 + (k - 8) = k by omega]
  have es : le c L (k + 1) = le c L k + 256 * (tbit c L k * 2 ^ (k - 8)) := by rw [le, e, Nat.mul_left_comm]
  refine ⟨?_, ?_, ?_⟩
  · rw [hi, hi, UInt8.toNat_ofNat', UInt8.toNat_ofNat', e8, Nat.mod_eq_of_lt (by omega), Nat.mod_eq_of_lt (by omega), es]; omega
  · rw [hi, UInt8.toNat_ofNat', e8, Nat.mod_eq_of_lt (by omega)]; rw [e] at h1; exact (Nat.div_lt_iff_lt_mul (by omega)).2 (by rw [Nat.mul_comm]; exact h1)
  · unfold lo
    apply UInt8.toNat_inj.1
    rw [UInt8.toNat_ofNat', UInt8.toNat_ofNat', e8, es]; omega
end Go.Proofs.Ytlhoahnjedpgaaa.Hm
