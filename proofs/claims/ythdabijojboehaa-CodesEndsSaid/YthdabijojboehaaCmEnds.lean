/- The sum of bytes with a number laid behind them (plain mathematics). -/
import Derived.Test.YthdabijojboehaaCm
namespace Go.Proofs.Ythdabijojboehaa.Cm

theorem xor_join (b y : Nat) (hb : b < 256) : b ^^^ (256 * y) = b + 256 * y := by
  apply Nat.eq_of_testBit_eq
  intro j
  have h1 := Nat.testBit_two_pow_mul_add (i := 8) y (b := b) hb j
  have h2 := Nat.testBit_two_pow_mul (i := 8) (a := y) (j := j)
  rw [show (2 : Nat) ^ 8 = 256 from rfl] at h1 h2
  rw [Nat.testBit_xor, h2, Nat.add_comm b, h1]
  by_cases hj : j < 8
  · rw [if_pos hj, show decide (j ≥ 8) = false by simp; omega]; simp
  · rw [if_neg hj, Nat.testBit_lt_two_pow (Nat.lt_of_lt_of_le hb (Nat.pow_le_pow_right (n := 2) (by omega) (by omega : 8 ≤ j))), show decide (j ≥ 8) = true by simp; omega]
    simp
theorem step_even (z : Nat) : step (2 * z) = z := by unfold step; rw [if_neg (by omega)]; omega
theorem steps_shift (k z : Nat) : steps k (2 ^ k * z) = z := by
  induction k generalizing z with
  | zero => simp [steps]
  | succ k ih => rw [steps, show 2 ^ (k + 1) * z = 2 ^ k * (2 * z) by rw [Nat.pow_succ, Nat.mul_assoc], ih, step_even]
theorem steps_add (a b r : Nat) : steps (a + b) r = steps a (steps b r) := by
  induction a with
  | zero => simp [steps]
  | succ a ih => rw [Nat.add_right_comm, steps, ih, steps]
theorem run_putL (k : Nat) : ∀ (r x : Nat), x < 256 ^ k → run r (putL x k) = steps (8 * k) (r ^^^ x) := by
  induction k with
  | zero => intro r x h; simp at h; subst h; simp [putL, run, steps]
  | succ k ih =>
    intro r x h
    have hy : x / 256 < 256 ^ k := by rw [Nat.pow_succ] at h; exact (Nat.div_lt_iff_lt_mul (by omega)).2 h
    have hb : x % 256 < 256 := Nat.mod_lt _ (by omega)
    show run (byteStep r (UInt8.ofNat x)) (putL (x / 256) k) = _
    rw [ih _ _ hy]
    have e : byteStep r (UInt8.ofNat x) ^^^ x / 256 = steps 8 (r ^^^ x) := by
      have hx : x = x % 256 ^^^ (256 * (x / 256)) := by rw [xor_join _ _ hb]; omega
      have s8 : steps 8 (256 * (x / 256)) = x / 256 := steps_shift 8 (x / 256)
      rw [byteStep, UInt8.toNat_ofNat', show (2 : Nat) ^ 8 = 256 from rfl]
      conv => rhs; rw [hx, ← Nat.xor_assoc, steps_xor, s8]
    rw [e, ← steps_add]
    congr 1
theorem inv_inj {a b : Nat} (ha : a < 4294967296) (hb : b < 4294967296) (h : inv a = inv b) : a = b := by unfold inv at h; omega
theorem ends_val : inv (steps 32 4294967295) = 558161692 := by decide +kernel
theorem crc_ends (l : List UInt8) (x : Nat) (hx : x < 4294967296) : (crc 0 (l ++ putL x 4) = 558161692) ↔ x = crc 0 l := by
  have hr : run (inv 0) l < 4294967296 := run_lt _ _ (inv_lt _)
  have e : crc 0 (l ++ putL x 4) = inv (steps 32 (run (inv 0) l ^^^ x)) := by
    rw [crc, run_append, run_putL 4 _ _ (by simpa using hx)]
  have hxr : run (inv 0) l ^^^ x < 4294967296 := Nat.xor_lt_two_pow (n := 32) hr hx
  have hs : crc 0 l = 4294967295 ^^^ run (inv 0) l := inv_xor _ hr
  rw [e, hs, ← ends_val]
  generalize run (inv 0) l = r at *
  constructor
  · intro h
    have h1 := inv_inj (steps_lt _ _ hxr) (steps_lt _ _ (by decide)) h
    have h2 := steps_inj 32 hxr (by decide) h1
    rw [← h2, Nat.xor_comm r x, Nat.xor_assoc, Nat.xor_self, Nat.xor_zero]
  · intro h
    rw [h, Nat.xor_comm 4294967295 r, ← Nat.xor_assoc, Nat.xor_self, Nat.zero_xor]
end Go.Proofs.Ythdabijojboehaa.Cm
