/- Plain mathematics of layer 9: streams by the codes that are always the same (no program in sight). -/
import Derived.Test.YtcjcmlnbchmnnaaImLess
import Derived.Test.YtcjcmlnbchmnnaaHmFollow
namespace Go.Proofs.Ytcjcmlnbchmnnaa.Im

/-- a code's bits, the highest first -/
def codeBits (c L : Nat) : List Nat := (List.range L).map fun k => c / 2 ^ (L - 1 - k) % 2
theorem codeBits_length (c L : Nat) : (codeBits c L).length = L := by simp [codeBits]
theorem codeBits_get {c L k : Nat} (h : k < L) : (codeBits c L)[k]? = some (c / 2 ^ (L - 1 - k) % 2) := by simp [codeBits, h]
/-- these bits stand there -/
def At (s : List UInt8) (p : Nat) (bits : List Nat) : Prop := ∀ k x, bits[k]? = some x → Hm.bitOf s (p + k) = x ∧ (p + k) / 8 < s.length
theorem At.nil (s : List UInt8) (p : Nat) : At s p [] := fun k x h => by simp at h
theorem At.left {s : List UInt8} {p : Nat} {a b : List Nat} (h : At s p (a ++ b)) : At s p a := fun k x hk => h k x (by rw [List.getElem?_append_left (List.getElem?_eq_some_iff.1 hk).1]; exact hk)
theorem At.right {s : List UInt8} {p : Nat} {a b : List Nat} (h : At s p (a ++ b)) : At s (p + a.length) b := fun k x hk => by
  have := h (a.length + k) x (by rw [List.getElem?_append_right (by omega), Nat.add_sub_cancel_left]; exact hk)
  rw [Nat.add_assoc]; exact this
theorem pv_at {s : List UInt8} {p c L : Nat} (h : At s p (codeBits c L)) (hc : c < 2 ^ L) : ∀ n, n ≤ L → Hm.pv s p n = c / 2 ^ (L - n)
  | 0, _ => by rw [Nat.sub_zero, Nat.div_eq_of_lt hc]; rfl
  | n + 1, hn => by
    have ih := pv_at h hc n (by omega)
    obtain ⟨hb, _⟩ := h n _ (codeBits_get (by omega))
    rw [Hm.pv, ih, hb]
    have e : L - n = (L - (n + 1)) + 1 := by omega
    have e2 : L - 1 - n = L - (n + 1) := by omega
    rw [e2, e, Nat.pow_succ, ← Nat.div_div_eq_div_mul]
    omega
theorem sym_at {ns : List Nat} {s : List UInt8} {p i : Nat} (hi : 1 ≤ Hm.len ns i) (hs : Hm.Short ns) (hc : Hm.code ns i < 2 ^ Hm.len ns i) (h : At s p (codeBits (Hm.code ns i) (Hm.len ns i))) : symP ns s p = .ok (i, p + Hm.len ns i) := by
  have hv := pv_at h hc (Hm.len ns i) (Nat.le_refl _)
  rw [Nat.sub_self, Nat.pow_zero, Nat.div_one] at hv
  have hr := Hm.read_follow hi hs hv (fun j hj => (h j _ (codeBits_get hj)).2)
  unfold symP
  rw [hr]
  simp only [if_true]
  congr 2
theorem At.bits {s : List UInt8} {p : Nat} {bits : List Nat} (h : At s p bits) (hn : bits ≠ []) : p + bits.length ≤ 8 * s.length := by
  have hl : 0 < bits.length := List.length_pos_iff.2 hn
  have := (h (bits.length - 1) _ (List.getElem?_eq_getElem (by omega))).2
  omega
/-- the bits of a symbol of the first table -/
def litBits (x : Nat) : List Nat := codeBits (Hm.code fixLit x) (Hm.len fixLit x)
theorem fixLit_code : ∀ x, x < 288 → Hm.code fixLit x = if x < 144 then 48 + x else if x < 256 then 400 + (x - 144) else if x < 280 then x - 256 else 192 + (x - 280) := by decide +kernel
theorem fixLit_len : ∀ x, x < 288 → Hm.len fixLit x = if x < 144 then 8 else if x < 256 then 9 else if x < 280 then 7 else 8 := by decide +kernel
theorem fixDist_code : ∀ x, x < 32 → Hm.code fixDist x = x ∧ Hm.len fixDist x = 5 := by decide +kernel
theorem fixLit_bound {x : Nat} (h : x < 288) : 1 ≤ Hm.len fixLit x ∧ Hm.code fixLit x < 2 ^ Hm.len fixLit x := by
  rw [fixLit_code x h, fixLit_len x h]
  split
  · omega
  · split
    · omega
    · split <;> omega
end Go.Proofs.Ytcjcmlnbchmnnaa.Im
