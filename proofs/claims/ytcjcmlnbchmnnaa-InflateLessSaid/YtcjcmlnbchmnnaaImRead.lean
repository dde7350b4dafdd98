/- Plain mathematics of layer 9: what a symbol that was read is; more bytes behind (no program in sight). -/
import Derived.Test.YtcjcmlnbchmnnaaIm
namespace Go.Proofs.Ytcjcmlnbchmnnaa.Im

theorem tab_val {ns : List Nat} {c l : Nat} {x : Int} : ∀ j, Hm.tabTo ns j c l = some x → 0 ≤ x → ∃ i : Nat, x = i ∧ i < j ∧ Hm.len ns i = l ∧ 1 ≤ l
  | 0, h, _ => by simp [Hm.tabTo] at h
  | j + 1, h, hx => by
    rw [Hm.tabTo] at h
    by_cases e : Hm.len ns j = 0
    · rw [if_pos e] at h
      obtain ⟨i, h1, h2, h3⟩ := tab_val j h hx
      exact ⟨i, h1, by omega, h3⟩
    · rw [if_neg e, Hm.ins_at] at h
      by_cases e1 : c = Hm.code ns j ∧ l = Hm.len ns j
      · rw [if_pos e1] at h
        cases h
        exact ⟨j, rfl, by omega, e1.2.symm, by omega⟩
      · rw [if_neg e1] at h
        by_cases e2 : l < Hm.len ns j ∧ c = Hm.code ns j / 2 ^ (Hm.len ns j - l)
        · rw [if_pos e2] at h; cases h; omega
        · rw [if_neg e2] at h
          obtain ⟨i, h1, h2, h3⟩ := tab_val j h hx
          exact ⟨i, h1, by omega, h3⟩
theorem rd_val {ns : List Nat} {s : List UInt8} {x nx : Int} : ∀ n c l bit : Nat, Hm.rd (Hm.tab ns) s n c l bit = (x, nx, 0) → ∃ i k : Nat, x = i ∧ i < ns.length ∧ Hm.len ns i = l + k ∧ 1 ≤ l + k ∧ nx = ((bit + k : Nat) : Int) ∧ (k = 0 ∨ bit + k ≤ 8 * s.length)
  | 0, c, l, bit, h => by simp [Hm.rd] at h
  | n + 1, c, l, bit, h => by
    cases hf : Hm.tab ns c l with
    | none => rw [Hm.rd_none hf] at h; simp at h
    | some y =>
      by_cases hy : 0 ≤ y
      · rw [Hm.rd_sym hf hy] at h
        simp only [Prod.mk.injEq, and_true] at h
        obtain ⟨i, h1, h2, h3, h4⟩ := tab_val ns.length hf hy
        exact ⟨i, 0, by omega, h2, by omega, by omega, by omega, .inl rfl⟩
      · by_cases hb : s.length ≤ bit / 8
        · rw [Hm.rd_end hf hy hb] at h; simp at h
        · rw [Hm.rd_on hf hy hb] at h
          obtain ⟨i, k, h1, h2, h3, h4, h5, h6⟩ := rd_val n _ _ _ h
          exact ⟨i, k + 1, h1, h2, by omega, by omega, by omega, .inr (by omega)⟩
theorem read_val {ns : List Nat} {s : List UInt8} {bit : Nat} {x nx : Int} (h : Hm.read ns s bit = (x, nx, 0)) : ∃ i k : Nat, x = i ∧ i < ns.length ∧ Hm.len ns i = k ∧ 1 ≤ k ∧ nx = ((bit + k : Nat) : Int) ∧ bit + k ≤ 8 * s.length := by
  obtain ⟨i, k, h1, h2, h3, h4, h5, h6⟩ := rd_val 17 0 0 bit h
  exact ⟨i, k, h1, h2, by omega, by omega, h5, by omega⟩
theorem symP_ok {ns : List Nat} {s : List UInt8} {pos x p : Nat} (h : symP ns s pos = .ok (x, p)) : x < ns.length ∧ pos < p ∧ p ≤ 8 * s.length ∧ Hm.read ns s pos = ((x : Int), (p : Int), 0) := by
  unfold symP at h
  rcases hr : Hm.read ns s pos with ⟨a, b, c⟩
  rw [hr] at h
  by_cases hc : c = 0
  · subst hc
    simp only [if_true, Except.ok.injEq, Prod.mk.injEq] at h
    obtain ⟨i, k, h1, h2, h3, h4, h5, h6⟩ := read_val hr
    subst h1 h5
    obtain ⟨rfl, rfl⟩ := h
    exact ⟨by omega, by omega, by omega, rfl⟩
  · simp [hc] at h
theorem symP_err {ns : List Nat} {s : List UInt8} {pos : Nat} {e : Int} (h : symP ns s pos = .error e) : ∃ x nx c, Hm.read ns s pos = (x, nx, c) ∧ c ≠ 0 ∧ e = if c = 84 then 0 else 91 := by
  unfold symP at h
  rcases hr : Hm.read ns s pos with ⟨a, b, c⟩
  rw [hr] at h
  by_cases hc : c = 0
  · simp [hc] at h
  · simp only [hc, if_false, Except.error.injEq] at h
    exact ⟨a, b, c, rfl, hc, h.symm⟩

/-- more bytes behind: the bits ahead are as they were -/
theorem bitOf_app {s t : List UInt8} {bit : Nat} (h : bit / 8 < s.length) : Hm.bitOf (s ++ t) bit = Hm.bitOf s bit := by
  unfold Hm.bitOf
  rw [List.getD_eq_getElem?_getD, List.getD_eq_getElem?_getD, List.getElem?_append_left h]
theorem num_app {s t : List UInt8} {pos : Nat} : ∀ n, pos + n ≤ 8 * s.length → num (s ++ t) pos n = num s pos n
  | 0, _ => rfl
  | n + 1, h => by rw [num, num, num_app n (by omega), bitOf_app (by omega)]
theorem rd_app {f : Nat → Nat → Option Int} {s t : List UInt8} : ∀ n c l bit : Nat, (Hm.rd f s n c l bit).2.2 ≠ 84 → Hm.rd f (s ++ t) n c l bit = Hm.rd f s n c l bit
  | 0, _, _, _, _ => rfl
  | n + 1, c, l, bit, h => by
    cases hf : f c l with
    | none => rw [Hm.rd_none hf, Hm.rd_none hf]
    | some y =>
      by_cases hy : 0 ≤ y
      · rw [Hm.rd_sym hf hy, Hm.rd_sym hf hy]
      · by_cases hb : s.length ≤ bit / 8
        · rw [Hm.rd_end hf hy hb] at h; simp at h
        · rw [Hm.rd_on hf hy hb] at h ⊢
          rw [Hm.rd_on hf hy (by rw [List.length_append]; omega), bitOf_app (by omega), rd_app n _ _ _ h]
/-- an answer that more bytes do not change -/
def Firm {α : Type} (x y : Except Int α) : Prop := x = .error 0 ∨ y = x
theorem bitsP_app (s t : List UInt8) (pos n : Nat) : Firm (bitsP s pos n) (bitsP (s ++ t) pos n) := by
  unfold bitsP Firm
  by_cases h : pos + n ≤ 8 * s.length
  · rw [if_pos h, if_pos (by rw [List.length_append]; omega), num_app n h]; exact .inr rfl
  · rw [if_neg h]; exact .inl rfl
theorem symP_app (ns : List Nat) (s t : List UInt8) (pos : Nat) : Firm (symP ns s pos) (symP ns (s ++ t) pos) := by
  unfold symP Firm
  by_cases h : (Hm.read ns s pos).2.2 = 84
  · left; simp [h]
  · right
    have e : Hm.read ns (s ++ t) pos = Hm.read ns s pos := rd_app 17 0 0 pos h
    rw [e]
theorem lenP_app (s t : List UInt8) (x pos : Nat) : Firm (lenP s x pos) (lenP (s ++ t) x pos) := by
  unfold lenP Firm
  by_cases hx : 285 < x
  · rw [if_pos hx, if_pos hx]; exact .inr rfl
  · rw [if_neg hx, if_neg hx]
    by_cases h : pos + lenMore x ≤ 8 * s.length
    · rw [if_pos h, if_pos (by rw [List.length_append]; omega), num_app _ h]; exact .inr rfl
    · rw [if_neg h]; exact .inl rfl
theorem dstP_app (s t : List UInt8) (x pos : Nat) : Firm (dstP s x pos) (dstP (s ++ t) x pos) := by
  unfold dstP Firm
  by_cases hx : 29 < x
  · rw [if_pos hx, if_pos hx]; exact .inr rfl
  · rw [if_neg hx, if_neg hx]
    by_cases h : pos + dstMore x ≤ 8 * s.length
    · rw [if_pos h, if_pos (by rw [List.length_append]; omega), num_app _ h]; exact .inr rfl
    · rw [if_neg h]; exact .inl rfl
end Go.Proofs.Ytcjcmlnbchmnnaa.Im
