/- Plain mathematics of layer 8: how the reference finds codes, and what it asks of lengths (no program in sight). -/
import Derived.Test.YtlhoahnjedpgaaaHm
namespace Go.Proofs.Ytlhoahnjedpgaaa.Hm

/-- how many have a length; the last one that has -/
def mny : List Nat → Nat
  | [] => 0
  | n :: r => (if n = 0 then 0 else 1) + mny r
def lst : Nat → List Nat → Nat
  | x, [] => x
  | x, n :: r => lst (if n = 0 then x else n) r
def big : List Nat → Nat
  | [] => 0
  | n :: r => (if 2 ≤ n then 1 else 0) + big r
theorem mny_snoc (a : List Nat) (n : Nat) : mny (a ++ [n]) = mny a + if n = 0 then 0 else 1 := by
  induction a with
  | nil => simp [mny]
  | cons x a ih => simp only [List.cons_append, mny, ih]; omega
theorem lst_snoc (a : List Nat) (x n : Nat) : lst x (a ++ [n]) = if n = 0 then lst x a else n := by
  induction a generalizing x with
  | nil => rfl
  | cons y a ih => simp only [List.cons_append, lst, ih]
theorem mny_le (a : List Nat) : mny a ≤ a.length := by
  induction a with
  | nil => simp [mny]
  | cons x a ih => simp only [mny, List.length_cons]; split <;> omega
theorem mny_eq (a : List Nat) : mny a = a.count 1 + big a := by
  induction a with
  | nil => rfl
  | cons x a ih =>
    simp only [mny, big, ih, List.count_cons, beq_iff_eq]
    rcases (by omega : x = 0 ∨ x = 1 ∨ 2 ≤ x) with rfl | rfl | h
    · simp
    · simp; omega
    · rw [if_neg (by omega), if_pos h, if_neg (by omega)]; omega
theorem share_bd (a : List Nat) (hs : Short a) : 16384 * a.count 1 + big a ≤ share a ∧ share a ≤ 16384 * a.count 1 + 8192 * big a := by
  induction a with
  | nil => simp [share, big]
  | cons x a ih =>
    have ih' := ih (fun n hn => hs n (by simp [hn]))
    have hx := hs x (by simp)
    simp only [share, big, List.count_cons, beq_iff_eq]
    rcases (by omega : x = 0 ∨ x = 1 ∨ 2 ≤ x) with rfl | rfl | h
    · simp [part]; omega
    · simp [part]; omega
    · have h1 : part x ≤ 8192 := by
        unfold part; rw [if_neg (by omega)]
        exact Nat.pow_le_pow_right (n := 2) (j := 13) (by omega) (by omega)
      have h2 : 1 ≤ part x := by unfold part; rw [if_neg (by omega)]; exact Nat.two_pow_pos _
      rw [if_pos h, if_neg (by omega)]; omega
theorem lst_mem (a : List Nat) (x : Nat) : lst x a = x ∨ lst x a ∈ a := by
  induction a generalizing x with
  | nil => exact .inl rfl
  | cons y a ih =>
    simp only [lst]
    rcases ih (if y = 0 then x else y) with h | h
    · rw [h]; split
      · exact .inl rfl
      · exact .inr (by simp)
    · exact .inr (by simp [h])
theorem lst_pos (a : List Nat) (x : Nat) : (1 ≤ mny a ∨ 1 ≤ x) → 1 ≤ lst x a := by
  induction a generalizing x with
  | nil => intro h; simpa [mny, lst] using h
  | cons y a ih =>
    intro h
    simp only [lst]
    apply ih
    simp only [mny] at h
    by_cases hy : y = 0
    · rw [if_pos hy] at h ⊢; omega
    · rw [if_neg hy]; right; omega
theorem big_mem (a : List Nat) (h : big a = 0) : ∀ n ∈ a, n ≤ 1 := by
  induction a with
  | nil => intro n hn; cases hn
  | cons x a ih =>
    intro n hn
    simp only [big] at h
    rcases List.mem_cons.1 hn with rfl | hn
    · split at h <;> omega
    · exact ih (by omega) n hn
/-- the two ways to ask whether too few codes are there -/
theorem few_iff (ns : List Nat) (hs : Short ns) (h0 : 0 < share ns) : (1 < mny ns ∨ lst 0 ns ≠ 1) ↔ (ns.count 1 ≠ 1 ∨ 16384 < share ns) := by
  have hb := share_bd ns hs
  have hm := mny_eq ns
  have hm1 : 1 ≤ mny ns := by omega
  constructor
  · intro h
    rcases (by omega : ns.count 1 ≠ 1 ∨ ns.count 1 = 1) with hc | hc
    · exact .inl hc
    · right
      rcases h with h | h
      · omega
      · rcases (by omega : big ns = 0 ∨ 1 ≤ big ns) with hz | hz
        · exfalso
          have h1 := lst_pos ns 0 (.inl hm1)
          rcases lst_mem ns 0 with e | e
          · omega
          · have := big_mem ns hz _ e; omega
        · omega
  · intro h
    by_cases hl : lst 0 ns = 1
    · left
      have hc : 1 ≤ ns.count 1 := by
        rcases lst_mem ns 0 with e | e
        · omega
        · rw [hl] at e; exact List.count_pos_iff.2 e
      omega
    · exact .inr hl
theorem mny_share (ns : List Nat) (hs : Short ns) : 0 < mny ns ↔ 0 < share ns := by
  have := share_bd ns hs
  have := mny_eq ns
  omega

/-- the next code, as the reference goes: length l, so many symbols looked at -/
def nxt (ns : List Nat) (l i : Nat) : Nat := fst ns l + (ns.take i).count l
def RC (ns : List Nat) (l i c g : Nat) (first : Bool) : Prop := (first = true ∧ c = 0 ∧ g = 0 ∧ nxt ns l i = 0) ∨ (first = false ∧ 1 ≤ g ∧ g ≤ l ∧ (c + 1) * 2 ^ (l - g) = nxt ns l i)
theorem RC_start (ns : List Nat) : RC ns 1 0 0 0 true := .inl ⟨rfl, rfl, rfl, by simp [nxt, fst, cn]⟩
theorem nxt_skip {ns : List Nat} {l i : Nat} (hi : i < ns.length) (h : len ns i ≠ l) : nxt ns l (i + 1) = nxt ns l i := by
  unfold nxt; rw [count_take_succ ns l hi, if_neg (by rw [← len_get hi]; exact h)]; rfl
theorem nxt_hit {ns : List Nat} {l i : Nat} (hi : i < ns.length) (h : len ns i = l) : nxt ns l (i + 1) = nxt ns l i + 1 := by
  unfold nxt; rw [count_take_succ ns l hi, if_pos (by rw [← len_get hi]; exact h)]; rfl
theorem nxt_next (ns : List Nat) (l : Nat) (h : 1 ≤ l) : nxt ns (l + 1) 0 = 2 * nxt ns l ns.length := by
  unfold nxt; rw [fst, cn, if_neg (by omega)]; simp
theorem nxt_code {ns : List Nat} {l i : Nat} (h1 : 1 ≤ l) (h : len ns i = l) : code ns i = nxt ns l i := by
  unfold nxt; rw [code_pos (by omega), h]
theorem RC_skip {ns : List Nat} {l i c g : Nat} {f : Bool} (h : RC ns l i c g f) (hi : i < ns.length) (hne : len ns i ≠ l) : RC ns l (i + 1) c g f := by
  unfold RC; rw [nxt_skip hi hne]; exact h
theorem RC_hit {ns : List Nat} {l i : Nat} (hi : i < ns.length) (h1 : 1 ≤ l) (h : len ns i = l) : RC ns l (i + 1) (code ns i) l false := by
  refine .inr ⟨rfl, h1, Nat.le_refl _, ?_⟩
  rw [nxt_hit hi h, nxt_code h1 h, Nat.sub_self]; omega
theorem RC_next {ns : List Nat} {l c g : Nat} {f : Bool} (h : RC ns l ns.length c g f) (h1 : 1 ≤ l) : RC ns (l + 1) 0 c g f := by
  unfold RC; rw [nxt_next ns l h1]
  rcases h with ⟨a, b, d, e⟩ | ⟨a, b, d, e⟩
  · exact .inl ⟨a, b, d, by omega⟩
  · refine .inr ⟨a, b, by omega, ?_⟩
    rw [← e, show l + 1 - g = (l - g) + 1 by omega, Nat.pow_succ]
    generalize 2 ^ (l - g) = p
    rw [Nat.mul_comm p 2, Nat.mul_left_comm]
theorem nxt_le (ns : List Nat) (hsr : share ns ≤ 32768) (l i : Nat) (h1 : 1 ≤ l) (h : l ≤ 15) : nxt ns l i ≤ 32768 := by
  have := top_le ns hsr l h1 h
  have h2 : 2 ^ l ≤ 32768 := Nat.pow_le_pow_right (n := 2) (j := 15) (by omega) h
  have h3 : (ns.take i).count l ≤ ns.count l := List.Sublist.count_le _ (List.take_sublist _ _)
  unfold nxt; omega
end Go.Proofs.Ytlhoahnjedpgaaa.Hm
