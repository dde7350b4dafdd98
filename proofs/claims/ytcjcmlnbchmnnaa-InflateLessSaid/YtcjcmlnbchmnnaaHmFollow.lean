/- Plain mathematics of layer 8: bits that begin with a code are read as its symbol (no program in sight). -/
import Derived.Test.YtcjcmlnbchmnnaaHmRead
namespace Go.Proofs.Ytcjcmlnbchmnnaa.Hm

/-- the number of so many bits from a bit on, the first the highest -/
def pv (s : List UInt8) (b : Nat) : Nat → Nat
  | 0 => 0
  | n + 1 => 2 * pv s b n + bitOf s (b + n)
theorem pv_lt (s : List UInt8) (b n : Nat) : pv s b n < 2 ^ n := by
  induction n with
  | zero => simp [pv]
  | succ n ih => have := bitOf_le s (b + n); rw [pv, Nat.pow_succ]; omega
theorem pv_cut (s : List UInt8) (b l d : Nat) : pv s b (l + d) / 2 ^ d = pv s b l := by
  induction d with
  | zero => simp
  | succ d ih =>
    have := bitOf_le s (b + (l + d))
    rw [← Nat.add_assoc, pv, Nat.pow_succ, Nat.mul_comm (2 ^ d) 2, ← Nat.div_div_eq_div_mul, ← ih]
    congr 1; omega
theorem rd_follow {ns : List Nat} {s : List UInt8} {b i : Nat} (hi : 1 ≤ len ns i) (hs : Short ns) (hp : pv s b (len ns i) = code ns i) (ha : ∀ j, j < len ns i → (b + j) / 8 < s.length) :
    ∀ d l n, l + d = len ns i → 16 < n + l → rd (tab ns) s n (pv s b l) l (b + l) = ((i : Int), ((b + len ns i : Nat) : Int), 0) := by
  intro d
  induction d with
  | zero =>
    intro l n hl hn
    have h15 := len_le hs i
    obtain ⟨m, rfl⟩ : ∃ m, n = m + 1 := ⟨n - 1, by omega⟩
    obtain rfl : l = len ns i := by omega
    have ht : tab ns (code ns i) (len ns i) = some (i : Int) := tab_code hi _ (len_lt hi)
    rw [hp, rd_sym ht (by omega)]
  | succ d ih =>
    intro l n hl hn
    have h15 := len_le hs i
    obtain ⟨m, rfl⟩ : ∃ m, n = m + 1 := ⟨n - 1, by omega⟩
    have hc : pv s b l = code ns i / 2 ^ (len ns i - l) := by
      rw [← hp, show len ns i - l = d + 1 by omega, ← hl, pv_cut]
    have ht : tab ns (code ns i / 2 ^ (len ns i - l)) l = some (-1) := tab_pre (by omega) _ (len_lt hi)
    rw [← hc] at ht
    rw [rd_on ht (by omega) (by have := ha l (by omega); omega)]
    exact ih (l + 1) m (by omega) (by omega)
theorem read_follow {ns : List Nat} {s : List UInt8} {b i : Nat} (hi : 1 ≤ len ns i) (hs : Short ns) (hp : pv s b (len ns i) = code ns i) (ha : ∀ j, j < len ns i → (b + j) / 8 < s.length) :
    read ns s b = ((i : Int), ((b + len ns i : Nat) : Int), 0) := rd_follow hi hs hp ha (len ns i) 0 17 (by omega) (by omega)
theorem read_whole {ns : List Nat} (hs : Short ns) (hw : share ns = 32768) (x y : UInt8) : ∃ i, i < ns.length ∧ read ns [x, y] 0 = ((i : Int), (len ns i : Int), 0) := by
  obtain ⟨i, h1, h2⟩ := cover hs hw (pv [x, y] 0 15) (pv_lt _ _ 15)
  have h15 := len_le hs i
  have hp : pv [x, y] 0 (len ns i) = code ns i := by
    rw [← h2]
    have := pv_cut [x, y] 0 (len ns i) (15 - len ns i)
    rw [show len ns i + (15 - len ns i) = 15 by omega] at this
    exact this.symm
  refine ⟨i, len_lt h1, ?_⟩
  rw [read_follow h1 hs hp (fun j hj => by simp; omega), Nat.zero_add]
end Go.Proofs.Ytcjcmlnbchmnnaa.Hm
