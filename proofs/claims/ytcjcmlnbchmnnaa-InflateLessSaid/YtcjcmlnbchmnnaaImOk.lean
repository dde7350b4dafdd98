/- Plain mathematics of layer 9: what numbers, lengths and distances that were read are (no program in sight). -/
import Derived.Test.YtcjcmlnbchmnnaaImRead
namespace Go.Proofs.Ytcjcmlnbchmnnaa
namespace Im
set_option maxRecDepth 100000 in
theorem dst_bounds : ∀ y, y < 30 → 1 ≤ dstBase y ∧ dstBase y + 2 ^ dstMore y ≤ 32769 := by decide
set_option maxRecDepth 100000 in
theorem len_bounds : ∀ x, x < 286 → 257 ≤ x → lenBase x + 2 ^ lenMore x ≤ 259 := by decide
theorem dstP_ok {s : List UInt8} {y p d p' : Nat} (h : dstP s y p = .ok (d, p')) : 1 ≤ d ∧ d ≤ 32768 ∧ p ≤ p' ∧ p' ≤ 8 * s.length := by
  unfold dstP at h
  by_cases h1 : 29 < y
  · rw [if_pos h1] at h; cases h
  rw [if_neg h1] at h
  by_cases h2 : p + dstMore y ≤ 8 * s.length
  · rw [if_pos h2] at h
    cases h
    have hb := dst_bounds y (by omega)
    have hn := num_lt s p (dstMore y)
    omega
  · rw [if_neg h2] at h; cases h
theorem lenP_ok {s : List UInt8} {x p n p' : Nat} (h : lenP s x p = .ok (n, p')) (hx : 257 ≤ x) : n ≤ 258 ∧ p ≤ p' ∧ p' ≤ 8 * s.length := by
  unfold lenP at h
  by_cases h1 : 285 < x
  · rw [if_pos h1] at h; cases h
  rw [if_neg h1] at h
  by_cases h2 : p + lenMore x ≤ 8 * s.length
  · rw [if_pos h2] at h
    cases h
    have hb := len_bounds x (by omega) hx
    have hn := num_lt s p (lenMore x)
    omega
  · rw [if_neg h2] at h; cases h
theorem bitsP_ok {s : List UInt8} {p n v p' : Nat} (h : bitsP s p n = .ok (v, p')) : v < 2 ^ n ∧ p' = p + n ∧ p' ≤ 8 * s.length := by
  unfold bitsP at h
  by_cases h2 : p + n ≤ 8 * s.length
  · rw [if_pos h2] at h
    cases h
    exact ⟨num_lt s p n, rfl, h2⟩
  · rw [if_neg h2] at h; cases h
end Im
end Go.Proofs.Ytcjcmlnbchmnnaa
