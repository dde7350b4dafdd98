/- Plain mathematics of layer 8: bits read as symbols (no program in sight). -/
import Derived.Test.YtcjcmlnbchmnnaaHm
namespace Go.Proofs.Ytcjcmlnbchmnnaa.Hm

def bitOf (s : List UInt8) (bit : Nat) : Nat := (s.getD (bit / 8) 0).toNat / 2 ^ (bit % 8) % 2
theorem bitOf_le (s : List UInt8) (bit : Nat) : bitOf s bit ≤ 1 := by unfold bitOf; omega
def rd (f : Nat → Nat → Option Int) (s : List UInt8) : Nat → Nat → Nat → Nat → Int × Int × Int
  | 0, _, _, _ => (0, 0, 83)
  | n + 1, c, l, bit => match f c l with
    | none => (0, 0, 83)
    | some x => if 0 ≤ x then (x, bit, 0) else if s.length ≤ bit / 8 then (0, 0, 84) else rd f s n (2 * c + bitOf s bit) (l + 1) (bit + 1)
theorem rd_none {f : Nat → Nat → Option Int} {s : List UInt8} {n c l bit : Nat} (h : f c l = none) : rd f s (n + 1) c l bit = (0, 0, 83) := by simp only [rd, h]
theorem rd_sym {f : Nat → Nat → Option Int} {s : List UInt8} {n c l bit : Nat} {x : Int} (h : f c l = some x) (hx : 0 ≤ x) : rd f s (n + 1) c l bit = (x, (bit : Int), 0) := by simp only [rd, h, if_pos hx]
theorem rd_end {f : Nat → Nat → Option Int} {s : List UInt8} {n c l bit : Nat} {x : Int} (h : f c l = some x) (hx : ¬ 0 ≤ x) (hb : s.length ≤ bit / 8) : rd f s (n + 1) c l bit = (0, 0, 84) := by simp only [rd, h, if_neg hx, if_pos hb]
theorem rd_on {f : Nat → Nat → Option Int} {s : List UInt8} {n c l bit : Nat} {x : Int} (h : f c l = some x) (hx : ¬ 0 ≤ x) (hb : ¬ s.length ≤ bit / 8) : rd f s (n + 1) c l bit = rd f s n (2 * c + bitOf s bit) (l + 1) (bit + 1) := by simp only [rd, h, if_neg hx, if_neg hb]
/-- the symbol at a bit -/
def read (ns : List Nat) (s : List UInt8) (bit : Nat) : Int × Int × Int := rd (tab ns) s 17 0 0 bit
end Go.Proofs.Ytcjcmlnbchmnnaa.Hm
