/- Small laws on how a walk spells numbers: i64 bit operations on naturals, wraps of bytes (no program in sight). · A mask of an integer: a natural number up to the mask (no program in sight). -/
import Derived.WalkKit
import Derived.WalkSpells
import Derived.Test.YtcjcmlnbchmnnaaPl
/-! ### Words -/
namespace Go.Proofs.Ytcjcmlnbchmnnaa
open Go.RowKit

theorem wrap_i64_nat (n : Nat) (h : n < 9223372036854775808) : IntKind.i64.wrap (n : Int) = n := by
  simp only [IntKind.wrap, IntKind.bits, IntKind.signed]
  simp
  omega
theorem bits_or_i64 (a b : Nat) (ha : a < 9223372036854775808) (hb : b < 9223372036854775808) : bits .or .i64 (a : Int) (b : Int) = ((a ||| b : Nat) : Int) := by
  have hx : a ||| b < 2 ^ 63 := Nat.or_lt_two_pow (by omega) (by omega)
  show IntKind.i64.wrap ((BitVec.ofInt 64 (a : Int) ||| BitVec.ofInt 64 (b : Int)).toNat : Int) = _
  rw [BitVec.toNat_or, ofInt_u64 a (by omega), ofInt_u64 b (by omega), wrap_i64_nat _ (by omega)]
theorem bits_and_i64 (a b : Nat) (ha : a < 9223372036854775808) (hb : b < 9223372036854775808) : bits .and .i64 (a : Int) (b : Int) = ((a &&& b : Nat) : Int) := by
  have hx : a &&& b < 2 ^ 63 := Nat.and_lt_two_pow _ (by omega)
  show IntKind.i64.wrap ((BitVec.ofInt 64 (a : Int) &&& BitVec.ofInt 64 (b : Int)).toNat : Int) = _
  rw [BitVec.toNat_and, ofInt_u64 a (by omega), ofInt_u64 b (by omega), wrap_i64_nat _ (by omega)]
theorem pow256 (k : Nat) : 2 ^ (8 * k) = 256 ^ k := by rw [Nat.pow_mul]
theorem or_byte (m k c : Nat) (hm : m < 256 ^ k) (hk : k < 7) (hc : c < 256) :
    bits BinOp.or IntKind.i64 (m : Int) (wrap64 (wrap64 (c : Int) * 2 ^ (8 * k))) = ((m + 256 ^ k * c : Nat) : Int) := by
  have hp : 256 ^ k ≤ 256 ^ 6 := Nat.pow_le_pow_right (by omega) (by omega)
  have hp' : (256 : Nat) ^ 6 = 281474976710656 := by decide
  rw [hp'] at hp
  have e1 : wrap64 (c : Int) = c := IntWalk.wrap64_in _ ⟨by omega, by omega⟩
  have e2 : (c : Int) * 2 ^ (8 * k) = ((256 ^ k * c : Nat) : Int) := by
    rw [← pow256, Nat.mul_comm]; simp [Int.mul_comm]
  have hb : 256 ^ k * c ≤ 281474976710656 * 256 := Nat.mul_le_mul hp (by omega)
  rw [e1, e2, IntWalk.wrap64_in _ ⟨by omega, by omega⟩, bits_or_i64 _ _ (by omega) (by omega)]
  rw [Nat.or_comm, nat_join (8 * k) _ _ (by rw [pow256]; exact Nat.mul_mod_right _ _) (by rw [pow256]; exact hm), Nat.add_comm]
theorem ret_int {k : IntKind} {a b : Int} (h : a = b) : Ending.returned (.int k a) = .returned (.int k b) := by rw [h]
theorem val_int {k : IntKind} {a b : Int} (h : a = b) : Value.int k a = .int k b := by rw [h]
theorem ret_two {k k' : IntKind} {a b c d : Int} (h : a = b) (h' : c = d) : Ending.returned (.tuple #[.int k a, .int k' c]) = .returned (.tuple #[.int k b, .int k' d]) := by rw [h, h']
theorem crc_inv (r : Nat) (h : r < 4294967296) : bits BinOp.xor IntKind.u32 IntKind.u32.max (r : Int) = (Cm.inv r : Nat) := by
  have e : IntKind.u32.max = ((4294967295 : Nat) : Int) := by decide
  rw [e, u32_xor_nat _ _ (by omega) h, Cm.inv_xor r h]
theorem crc_odd (x : Nat) (hx : x < 4294967296) (h : (bits BinOp.and IntKind.u32 (x : Int) 1 == 1) = true) : bits BinOp.xor IntKind.u32 ((x : Int) / 2) 3988292384 = (Cm.step x : Nat) := by
  have e := u32_and_nat x 1 hx (by omega)
  rw [nat_mask1] at e
  have h' : x % 2 = 1 := by rw [show ((1 : Int)) = ((1 : Nat) : Int) from rfl, e] at h; simp at h; omega
  have e2 := u32_xor_nat (x / 2) 3988292384 (by omega) (by omega)
  unfold Cm.step Cm.poly
  rw [if_pos h', ← e2]; rfl
theorem crc_even (x : Nat) (hx : x < 4294967296) (h : (bits BinOp.and IntKind.u32 (x : Int) 1 == 1) = false) : (x : Int) / 2 = (Cm.step x : Nat) := by
  have e := u32_and_nat x 1 hx (by omega)
  rw [nat_mask1] at e
  have h' : ¬ x % 2 = 1 := by rw [show ((1 : Int)) = ((1 : Nat) : Int) from rfl, e] at h; simp at h; omega
  unfold Cm.step
  rw [if_neg h']; rfl
theorem xor_byte32 (r : Nat) (c : UInt8) (hr : r < 4294967296) : bits BinOp.xor IntKind.u32 (r : Int) ((c.toNat : Int) % 4294967296) = ((r ^^^ c.toNat : Nat) : Int) := by
  have hc := Cm.byte_lt c
  rw [show (c.toNat : Int) % 4294967296 = (c.toNat : Int) from by omega, u32_xor_nat r c.toNat hr (by omega)]
theorem rcrc_odd (x : Nat) (hx : x < 4294967296) (h : x % 2 = 1) : bits BinOp.xor IntKind.u32 ((x : Int) / 2) 3988292384 = (Cm.step x : Nat) := by
  have e2 := u32_xor_nat (x / 2) 3988292384 (by omega) (by omega)
  unfold Cm.step Cm.poly
  rw [if_pos h, ← e2]; rfl
theorem rcrc_even (x : Nat) (h : ¬ x % 2 = 1) : (x : Int) / 2 = (Cm.step x : Nat) := by
  unfold Cm.step
  rw [if_neg h]; rfl
theorem rinv (r : Nat) (h : r < 4294967296) : 4294967295 - (r : Int) = (Cm.inv r : Nat) := by unfold Cm.inv; omega
theorem ret_str_int {k : IntKind} {a b : List UInt8} {c d : Int} (h : a = b) (h' : c = d) : Ending.returned (.tuple #[.string ⟨a.toArray⟩, .int k c]) = .returned (.tuple #[.string ⟨b.toArray⟩, .int k d]) := by rw [h, h']
theorem ret_str {a b : List UInt8} (h : a = b) : Ending.returned (.string ⟨a.toArray⟩) = .returned (.string ⟨b.toArray⟩) := by rw [h]
theorem byte_shift (n k : Nat) : (n : Int) / 2 ^ (8 * k) % 256 = ((UInt8.ofNat (n / 256 ^ k)).toNat : Int) := by
  rw [UInt8.toNat_ofNat', ← pow256]
  simp
theorem pow256_le (b : Nat) (h : b ≤ 7) : 256 ^ b ≤ 72057594037927936 := by
  have h1 : 256 ^ b ≤ 256 ^ 7 := Nat.pow_le_pow_right (by omega) h
  have h2 : (256 : Nat) ^ 7 = 72057594037927936 := by decide
  omega
theorem shr_zero (n b : Nat) (h : n < 256 ^ b) : ((n : Int) / 2 ^ (8 * b) != 0) = false := by
  have e : (n : Int) / 2 ^ (8 * b) = ((n / 256 ^ b : Nat) : Int) := by rw [← pow256]; simp
  rw [e, Nat.div_eq_of_lt h]; rfl
theorem shr_some (n b : Nat) (h : 256 ^ b ≤ n) : ((n : Int) / 2 ^ (8 * b) != 0) = true := by
  have e : (n : Int) / 2 ^ (8 * b) = ((n / 256 ^ b : Nat) : Int) := by rw [← pow256]; simp
  have h1 : 1 ≤ n / 256 ^ b := (Nat.one_le_div_iff (Nat.pow_pos (by omega))).2 h
  rw [e, bne_iff_ne]; omega
theorem take_set_succ (l : List UInt8) (k : Nat) (c : UInt8) (h : k < l.length) : (l.set k c).take (k + 1) = l.take k ++ [c] := by
  rw [List.take_succ_eq_append_getElem (by simpa using h), List.take_set_of_le (Nat.le_refl _)]; simp
theorem i64_bd {a : Int} (h : (Lit.int .i64 a).wf = true) : -9223372036854775808 ≤ a ∧ a ≤ 9223372036854775807 := by
  simpa [Lit.wf, IntKind.min, IntKind.max, IntKind.signed, IntKind.bits] using h
theorem u32_bd {a : Int} (h : (Lit.int .u32 a).wf = true) : 0 ≤ a ∧ a ≤ 4294967295 := by
  simpa [Lit.wf, IntKind.min, IntKind.max, IntKind.signed, IntKind.bits] using h
theorem isEmpty_pos (s : ByteArray) (h : 1 ≤ s.size) : s.toList.isEmpty = false := by
  rw [ByteArray.toList_eq]
  have e : s.data.toList.length = s.size := by rw [Array.length_toList]; rfl
  cases hl : s.data.toList with
  | nil => rw [hl] at e; simp at e; omega
  | cons a r => rfl
theorem isEmpty_zero (s : ByteArray) (h : s.size = 0) : s.toList.isEmpty = true := by
  rw [ByteArray.toList_eq]
  have e : s.data.toList.length = s.size := by rw [Array.length_toList]; rfl
  cases hl : s.data.toList with
  | nil => rfl
  | cons a r => rw [hl] at e; simp at e; omega
end Go.Proofs.Ytcjcmlnbchmnnaa
/-! ### IMask -/
namespace Go.Proofs.Ytcjcmlnbchmnnaa
open Go.RowKit

theorem and_mask (x : Int) (m : Nat) (hm : m < 9223372036854775808) : ∃ n : Nat, n ≤ m ∧ bits .and .i64 x (m : Int) = (n : Int) := by
  have hle : (BitVec.ofInt 64 x).toNat &&& m ≤ m := Nat.and_le_right
  refine ⟨(BitVec.ofInt 64 x).toNat &&& m, hle, ?_⟩
  have e : m % 2 ^ IntKind.i64.bits = m := Nat.mod_eq_of_lt (by show m < 2 ^ 64; omega)
  simp only [bits, BitVec.ofInt_natCast, BitVec.toNat_and, BitVec.toNat_ofNat, e]
  exact wrap_i64_nat _ (by show (BitVec.ofInt 64 x).toNat &&& m < 9223372036854775808; omega)
end Go.Proofs.Ytcjcmlnbchmnnaa
