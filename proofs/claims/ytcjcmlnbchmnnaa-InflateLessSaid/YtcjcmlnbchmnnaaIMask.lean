/- A mask of an integer: a natural number up to the mask (no program in sight). -/
import Derived.Test.YtcjcmlnbchmnnaaWords
namespace Go.Proofs.Ytcjcmlnbchmnnaa
open Go.RowKit

theorem and_mask (x : Int) (m : Nat) (hm : m < 9223372036854775808) : ∃ n : Nat, n ≤ m ∧ bits .and .i64 x (m : Int) = (n : Int) := by
  have hle : (BitVec.ofInt 64 x).toNat &&& m ≤ m := Nat.and_le_right
  refine ⟨(BitVec.ofInt 64 x).toNat &&& m, hle, ?_⟩
  have e : m % 2 ^ IntKind.i64.bits = m := Nat.mod_eq_of_lt (by show m < 2 ^ 64; omega)
  simp only [bits, BitVec.ofInt_natCast, BitVec.toNat_and, BitVec.toNat_ofNat, e]
  exact wrap_i64_nat _ (by show (BitVec.ofInt 64 x).toNat &&& m < 9223372036854775808; omega)
end Go.Proofs.Ytcjcmlnbchmnnaa
