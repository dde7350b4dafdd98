/- Plain: bits laid in bytes one by one, the lowest of each byte first (no program in sight). -/
import Derived.Test.YtcjcmlnbchmnnaaImE
namespace Go.Proofs.Ytcjcmlnbchmnnaa.Im

/-- the bytes of bits -/
structure Bytes (l : List UInt8) (bits : List Nat) : Prop where
  len : l.length = (bits.length + 7) / 8
  bit : ∀ k, k < 8 * l.length → Hm.bitOf l k = bits.getD k 0
/-- there is room for one more -/
structure Room (l : List UInt8) (bits : List Nat) : Prop where
  len : l.length = bits.length / 8 + 1
  bit : ∀ k, k < 8 * l.length → Hm.bitOf l k = bits.getD k 0
theorem Bytes.nil : Bytes [] [] := ⟨rfl, fun k h => by simp at h⟩
theorem Bytes.room_on {l : List UInt8} {bits : List Nat} (h : Bytes l bits) (h8 : bits.length % 8 ≠ 0) : Room l bits := ⟨by rw [h.len]; omega, h.bit⟩
theorem Bytes.room_new {l : List UInt8} {bits : List Nat} (h : Bytes l bits) (h8 : bits.length % 8 = 0) : Room (l ++ [0]) bits := by
  have hl := h.len
  refine ⟨by rw [List.length_append, hl]; simp; omega, fun k hk => ?_⟩
  rw [List.length_append] at hk
  simp only [List.length_cons, List.length_nil] at hk
  by_cases hlt : k < 8 * l.length
  · rw [bitOf_app (by omega)]; exact h.bit k hlt
  · have e1 : Hm.bitOf (l ++ [0]) k = 0 := by
      unfold Hm.bitOf
      rw [List.getD_eq_getElem?_getD, List.getElem?_append_right (by omega), show k / 8 - l.length = 0 by omega]
      simp
    have e2 : bits.getD k 0 = 0 := by rw [List.getD_eq_getElem?_getD, List.getElem?_eq_none (by omega)]; rfl
    rw [e1, e2]
def lay (l : List UInt8) (n b : Nat) : List UInt8 := l.set (n / 8) (UInt8.ofNat ((l.getD (n / 8) 0).toNat ||| b * 2 ^ (n % 8)))
theorem or_bit (x b j i : Nat) (hb : b ≤ 1) : (x ||| b * 2 ^ j) / 2 ^ i % 2 = if i = j then (if b = 1 then 1 else x / 2 ^ i % 2) else x / 2 ^ i % 2 := by
  rw [← Nat.toNat_testBit, Nat.testBit_or, ← Nat.toNat_testBit x i]
  rcases (by omega : b = 0 ∨ b = 1) with rfl | rfl
  · rw [Nat.zero_mul, Nat.zero_testBit, Bool.or_false]; simp
  · rw [Nat.one_mul, Nat.testBit_two_pow]
    by_cases h : i = j
    · subst h; simp
    · have : ¬ j = i := fun q => h q.symm
      simp [h, this]
theorem or_lt (x b j : Nat) (hx : x < 256) (hb : b ≤ 1) (hj : j < 8) : x ||| b * 2 ^ j < 256 := by
  have h2 : 2 ^ j ≤ 2 ^ 7 := Nat.pow_le_pow_right (by omega) (by omega)
  refine Nat.or_lt_two_pow (n := 8) hx ?_
  rcases (by omega : b = 0 ∨ b = 1) with rfl | rfl <;> omega
theorem Room.lay {l : List UInt8} {bits : List Nat} (h : Room l bits) {b : Nat} (hb : b ≤ 1) : Bytes (lay l bits.length b) (bits ++ [b]) := by
  have hl := h.len
  have hll : (Im.lay l bits.length b).length = l.length := List.length_set
  refine ⟨by rw [hll, hl, List.length_append]; simp; omega, fun k hk => ?_⟩
  rw [hll] at hk
  have hx : (l.getD (bits.length / 8) 0).toNat < 256 := (l.getD (bits.length / 8) 0).toNat_lt
  have hbit := h.bit k hk
  by_cases h8 : k / 8 = bits.length / 8
  · have e1 : Hm.bitOf (Im.lay l bits.length b) k = ((l.getD (bits.length / 8) 0).toNat ||| b * 2 ^ (bits.length % 8)) / 2 ^ (k % 8) % 2 := by
      unfold Hm.bitOf Im.lay
      rw [h8, List.getD_eq_getElem?_getD, List.getElem?_set_self (by omega), Option.getD_some, UInt8.toNat_ofNat', Nat.mod_eq_of_lt (or_lt _ _ _ hx hb (by omega))]
    have e2 : (l.getD (bits.length / 8) 0).toNat / 2 ^ (k % 8) % 2 = Hm.bitOf l k := by unfold Hm.bitOf; rw [h8]
    rw [e1, or_bit _ _ _ _ hb, e2, hbit]
    by_cases hk8 : k % 8 = bits.length % 8
    · have hkk : k = bits.length := by omega
      have e3 : bits.getD k 0 = 0 := by rw [List.getD_eq_getElem?_getD, List.getElem?_eq_none (by omega)]; rfl
      have e4 : (bits ++ [b]).getD k 0 = b := by rw [hkk, List.getD_eq_getElem?_getD, List.getElem?_append_right (Nat.le_refl _)]; simp
      rw [if_pos hk8, e3, e4]
      split <;> omega
    · rw [if_neg hk8, List.getD_eq_getElem?_getD, List.getD_eq_getElem?_getD]
      by_cases hlt : k < bits.length
      · rw [List.getElem?_append_left hlt]
      · rw [List.getElem?_eq_none (by omega), List.getElem?_eq_none (by rw [List.length_append]; simp; omega)]
  · have e1 : Hm.bitOf (Im.lay l bits.length b) k = Hm.bitOf l k := by
      unfold Hm.bitOf Im.lay
      rw [List.getD_eq_getElem?_getD, List.getElem?_set_ne (fun q => h8 q.symm), ← List.getD_eq_getElem?_getD]
    rw [e1, hbit, List.getD_eq_getElem?_getD, List.getD_eq_getElem?_getD]
    by_cases hlt : k < bits.length
    · rw [List.getElem?_append_left hlt]
    · rw [List.getElem?_eq_none (by omega), List.getElem?_eq_none (by rw [List.length_append]; simp; omega)]
/-- what follows does not matter -/
theorem Bytes.at {l : List UInt8} {bits : List Nat} (h : Bytes l bits) (t : List UInt8) : At (l ++ t) 0 bits := fun k x hk => by
  have hlt : k < bits.length := (List.getElem?_eq_some_iff.1 hk).1
  have hl := h.len
  rw [Nat.zero_add]
  refine ⟨?_, by rw [List.length_append]; omega⟩
  rw [bitOf_app (by omega), h.bit k (by omega), List.getD_eq_getElem?_getD, hk]
  rfl
theorem codeBits_next (c L j : Nat) (hj : j < L) : (codeBits c L).take (L - (j + 1)) ++ [c / 2 ^ j % 2] = (codeBits c L).take (L - j) := by
  have hl := codeBits_length c L
  have e : L - j = L - (j + 1) + 1 := by omega
  rw [e, List.take_add_one, codeBits_get (by omega), show L - 1 - (L - (j + 1)) = j by omega]
  rfl
end Go.Proofs.Ytcjcmlnbchmnnaa.Im
