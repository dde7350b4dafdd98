/- Plain mathematics of layer 8: codes of unlike lengths: how they are shared out, that none begins another one, that a whole share leaves no bits over (no program in sight). -/
namespace Go.Proofs.Ytcjcmlnbchmnnaa.Hm

/-! counts and shares -/
def part (n : Nat) : Nat := if n = 0 then 0 else 2 ^ (15 - n)
def share : List Nat → Nat
  | [] => 0
  | n :: r => part n + share r
def psh (L : Nat) : List Nat → Nat
  | [] => 0
  | n :: r => (if n ≤ L then part n else 0) + psh L r
def cn (ns : List Nat) (l : Nat) : Nat := if l = 0 then 0 else ns.count l
def fst (ns : List Nat) : Nat → Nat
  | 0 => 0
  | l + 1 => 2 * (fst ns l + cn ns l)
def len (ns : List Nat) (i : Nat) : Nat := ns.getD i 0
def code (ns : List Nat) (i : Nat) : Nat := if len ns i = 0 then 0 else fst ns (len ns i) + (ns.take i).count (len ns i)
def Short (ns : List Nat) : Prop := ∀ n ∈ ns, n ≤ 15

/-- why lengths may not be (0: they may) -/
def err (ns : List Nat) : Int := if 32768 < share ns then 81 else if share ns < 32768 ∧ 0 < share ns ∧ (ns.count 1 ≠ 1 ∨ 16384 < share ns) then 82 else 0

theorem share_append (a b : List Nat) : share (a ++ b) = share a + share b := by
  induction a with
  | nil => simp [share]
  | cons n a ih => simp [share, ih]; omega
theorem psh_zero (ns : List Nat) : psh 0 ns = 0 := by
  induction ns with
  | nil => rfl
  | cons n r ih =>
    simp only [psh, ih, part]
    split
    · rename_i h; simp [show n = 0 by omega]
    · rfl
theorem psh_succ (L : Nat) (ns : List Nat) : psh (L + 1) ns = psh L ns + ns.count (L + 1) * 2 ^ (15 - (L + 1)) := by
  induction ns with
  | nil => simp [psh]
  | cons n r ih =>
    simp only [psh, ih, List.count_cons]
    by_cases h : n = L + 1
    · subst h
      rw [if_pos (Nat.le_refl _), if_neg (by omega)]
      simp only [part, Nat.add_one_ne_zero, if_false, beq_self_eq_true, if_true, Nat.add_mul, Nat.one_mul]
      omega
    · by_cases h' : n ≤ L
      · rw [if_pos (by omega), if_pos h']; simp [h]; omega
      · rw [if_neg (by omega), if_neg h']; simp [h]
theorem psh_le (L : Nat) (ns : List Nat) : psh L ns ≤ share ns := by
  induction ns with
  | nil => exact Nat.le_refl _
  | cons n r ih => simp only [psh, share]; split <;> omega
theorem psh_all (ns : List Nat) (h : Short ns) : psh 15 ns = share ns := by
  induction ns with
  | nil => rfl
  | cons n r ih =>
    simp only [psh, share]
    rw [if_pos (h n (by simp)), ih (fun m hm => h m (by simp [hm]))]
theorem psh_mono (ns : List Nat) {a b : Nat} (h : a ≤ b) : psh a ns ≤ psh b ns := by
  induction ns with
  | nil => exact Nat.le_refl _
  | cons n r ih => simp only [psh]; split <;> split <;> omega
theorem fst_psh (ns : List Nat) (L : Nat) (h : L + 1 ≤ 15) : fst ns (L + 1) * 2 ^ (15 - (L + 1)) = psh L ns := by
  induction L with
  | zero => simp [fst, cn, psh_zero]
  | succ L ih =>
    have ih' := ih (by omega)
    rw [fst, psh_succ, ← ih']
    have e : 15 - (L + 1) = (15 - (L + 1 + 1)) + 1 := by omega
    rw [e, Nat.pow_succ]
    generalize 2 ^ (15 - (L + 1 + 1)) = p
    simp only [cn, Nat.add_one_ne_zero, if_false]
    generalize fst ns (L + 1) = x
    generalize ns.count (L + 1) = y
    rw [Nat.mul_comm p 2, ← Nat.mul_assoc, ← Nat.mul_assoc, ← Nat.add_mul]
    congr 1; omega
theorem top_psh (ns : List Nat) (l : Nat) (h1 : 1 ≤ l) (h : l ≤ 15) : (fst ns l + ns.count l) * 2 ^ (15 - l) = psh l ns := by
  obtain ⟨L, rfl⟩ : ∃ L, l = L + 1 := ⟨l - 1, by omega⟩
  rw [Nat.add_mul, fst_psh ns L h, psh_succ]
theorem top_le (ns : List Nat) (hs : share ns ≤ 32768) (l : Nat) (h1 : 1 ≤ l) (h : l ≤ 15) : fst ns l + ns.count l ≤ 2 ^ l := by
  have h2 := top_psh ns l h1 h
  have h3 := psh_le l ns
  have h4 : (32768 : Nat) = 2 ^ l * 2 ^ (15 - l) := by rw [← Nat.pow_add, show l + (15 - l) = 15 by omega]
  have h5 : (fst ns l + ns.count l) * 2 ^ (15 - l) ≤ 2 ^ l * 2 ^ (15 - l) := by omega
  exact Nat.le_of_mul_le_mul_right h5 (Nat.two_pow_pos _)
/-- what begins behind the codes of a shorter length -/
theorem fst_ge (ns : List Nat) (m n : Nat) (h1 : 1 ≤ m) (h : m < n) : (fst ns m + ns.count m) * 2 ^ (n - m) ≤ fst ns n := by
  obtain ⟨d, rfl⟩ : ∃ d, n = m + 1 + d := ⟨n - m - 1, by omega⟩
  induction d with
  | zero =>
    rw [show m + 1 + 0 - m = 1 by omega, show m + 1 + 0 = m + 1 by omega, fst, cn, if_neg (by omega)]
    omega
  | succ d ih =>
    have := ih (by omega)
    rw [show m + 1 + (d + 1) - m = (m + 1 + d - m) + 1 by omega, show m + 1 + (d + 1) = (m + 1 + d) + 1 by omega, Nat.pow_succ, ← Nat.mul_assoc, fst]
    omega

/-! places of symbols -/
theorem len_lt {ns : List Nat} {i : Nat} (h : 1 ≤ len ns i) : i < ns.length := by
  unfold len at h
  rcases Nat.lt_or_ge i ns.length with h' | h'
  · exact h'
  · rw [List.getD_eq_getElem?_getD, List.getElem?_eq_none h'] at h; simp at h
theorem len_get {ns : List Nat} {i : Nat} (h : i < ns.length) : len ns i = ns[i] := by simp [len, h]
theorem len_le {ns : List Nat} (hs : Short ns) (i : Nat) : len ns i ≤ 15 := by
  rcases Nat.lt_or_ge i ns.length with h | h
  · rw [len_get h]; exact hs _ (List.getElem_mem h)
  · unfold len; rw [List.getD_eq_getElem?_getD, List.getElem?_eq_none h]; simp
theorem rank_lt {ns : List Nat} {i : Nat} (h : i < ns.length) : (ns.take i).count (len ns i) < ns.count (len ns i) := by
  have e : ns = ns.take i ++ ns[i] :: ns.drop (i + 1) := by simp
  rw [len_get h]
  generalize hx : ns[i] = x at *
  have : ns.count x = (ns.take i).count x + (x :: ns.drop (i + 1)).count x := by
    conv => lhs; rw [e]
    rw [List.count_append]
  rw [this, List.count_cons_self]; omega
theorem count_take_mono (ns : List Nat) (x : Nat) {i k : Nat} (h : i ≤ k) : (ns.take i).count x ≤ (ns.take k).count x := by
  have : ns.take i = (ns.take k).take i := by rw [List.take_take, Nat.min_eq_left h]
  rw [this]
  exact List.Sublist.count_le _ (List.take_sublist _ _)
theorem count_take_succ (ns : List Nat) (x : Nat) {i : Nat} (h : i < ns.length) : (ns.take (i + 1)).count x = (ns.take i).count x + if ns[i] = x then 1 else 0 := by
  rw [List.take_succ_eq_append_getElem h, List.count_append, List.count_singleton]
  simp only [beq_iff_eq]
theorem rank_mono {ns : List Nat} {i k : Nat} (hk : k < ns.length) (h : i < k) (e : len ns i = len ns k) : (ns.take i).count (len ns k) < (ns.take k).count (len ns k) := by
  have hi : i < ns.length := by omega
  have h1 := count_take_succ ns (len ns k) hi
  rw [if_pos (by rw [← len_get hi]; exact e)] at h1
  have h2 := count_take_mono ns (len ns k) (show i + 1 ≤ k by omega)
  omega
theorem code_pos {ns : List Nat} {i : Nat} (h : 1 ≤ len ns i) : code ns i = fst ns (len ns i) + (ns.take i).count (len ns i) := by
  unfold code; rw [if_neg (by omega)]
theorem code_top {ns : List Nat} {i : Nat} (h : 1 ≤ len ns i) : code ns i < fst ns (len ns i) + ns.count (len ns i) := by
  rw [code_pos h]; have := rank_lt (len_lt h); omega
theorem code_lt {ns : List Nat} (hs : Short ns) (hsh : share ns ≤ 32768) (i : Nat) : code ns i < 2 ^ len ns i := by
  by_cases h : 1 ≤ len ns i
  · exact Nat.lt_of_lt_of_le (code_top h) (top_le ns hsh _ h (len_le hs i))
  · unfold code; rw [if_pos (by omega)]; exact Nat.two_pow_pos _
theorem code_lt_max {ns : List Nat} (hs : Short ns) (hsh : share ns ≤ 32768) (i : Nat) : code ns i < 32768 :=
  Nat.lt_of_lt_of_le (code_lt hs hsh i) (Nat.pow_le_pow_right (n := 2) (by omega) (len_le hs i))
/-- codes of one length rise with their symbols -/
theorem code_rise {ns : List Nat} {i k : Nat} (hk : 1 ≤ len ns k) (h : i < k) (e : len ns i = len ns k) : code ns i < code ns k := by
  rw [code_pos hk, code_pos (by omega), e]
  have := rank_mono (len_lt hk) h e
  omega
/-- a longer one, cut to a shorter one's length, stands behind it -/
theorem code_cut {ns : List Nat} {i k : Nat} (hi : 1 ≤ len ns i) (h : len ns i < len ns k) : code ns i < code ns k / 2 ^ (len ns k - len ns i) := by
  have h1 := fst_ge ns (len ns i) (len ns k) hi h
  have h2 := code_top hi
  have h3 : fst ns (len ns k) ≤ code ns k := by rw [code_pos (by omega)]; omega
  have h4 : fst ns (len ns i) + ns.count (len ns i) ≤ code ns k / 2 ^ (len ns k - len ns i) :=
    (Nat.le_div_iff_mul_le (Nat.two_pow_pos _)).2 (Nat.le_trans h1 h3)
  omega
theorem code_ne {ns : List Nat} {i k : Nat} (hi : 1 ≤ len ns i) (hne : i ≠ k) (e : len ns i = len ns k) : code ns i ≠ code ns k := by
  rcases Nat.lt_or_ge i k with h | h
  · have := code_rise (by omega) h e; omega
  · have := code_rise (ns := ns) (i := k) (k := i) hi (by omega) e.symm; omega

/-! the table, as it is laid -/
def upd (f : Nat → Nat → Option Int) (a b : Nat) (v : Int) : Nat → Nat → Option Int := fun c d => if c = a ∧ d = b then some v else f c d
def insP (f : Nat → Nat → Option Int) (c L : Nat) : Nat → Nat → Nat → Option Int
  | 0 => f
  | k + 1 => upd (insP f c L k) (c / 2 ^ (L - k)) k (-1)
def ins (f : Nat → Nat → Option Int) (c L i : Nat) : Nat → Nat → Option Int := upd (insP f c L L) c L (i : Int)
def tabTo (ns : List Nat) : Nat → Nat → Nat → Option Int
  | 0 => fun _ _ => none
  | i + 1 => if len ns i = 0 then tabTo ns i else ins (tabTo ns i) (code ns i) (len ns i) i
def tab (ns : List Nat) : Nat → Nat → Option Int := tabTo ns ns.length

theorem insP_at (f : Nat → Nat → Option Int) (C L k c l : Nat) : insP f C L k c l = if l < k ∧ c = C / 2 ^ (L - l) then some (-1) else f c l := by
  induction k with
  | zero => rw [insP, if_neg (by omega)]
  | succ k ih =>
    rw [insP, upd, ih]
    by_cases h : c = C / 2 ^ (L - k) ∧ l = k
    · rw [if_pos h, if_pos ⟨by omega, by rw [h.2]; exact h.1⟩]
    · rw [if_neg h]
      by_cases h2 : l < k ∧ c = C / 2 ^ (L - l)
      · rw [if_pos h2, if_pos ⟨by omega, h2.2⟩]
      · rw [if_neg h2, if_neg]
        intro ⟨h3, h4⟩
        rcases Nat.lt_or_ge l k with h5 | h5
        · exact h2 ⟨h5, h4⟩
        · have : l = k := by omega
          subst this; exact h ⟨h4, rfl⟩
theorem ins_at (f : Nat → Nat → Option Int) (C L i c l : Nat) : ins f C L i c l = if c = C ∧ l = L then some (i : Int) else if l < L ∧ c = C / 2 ^ (L - l) then some (-1) else f c l := by
  rw [ins, upd, insP_at]
/-- a code is read as its symbol -/
theorem tab_code {ns : List Nat} {i : Nat} (hi : 1 ≤ len ns i) : ∀ j, i < j → tabTo ns j (code ns i) (len ns i) = some (i : Int) := by
  intro j
  induction j with
  | zero => intro h; omega
  | succ j ih =>
    intro h
    rw [tabTo]
    by_cases hz : len ns j = 0
    · rw [if_pos hz]
      rcases Nat.lt_or_ge i j with h' | h'
      · exact ih h'
      · obtain rfl : i = j := by omega
        omega
    · rw [if_neg hz, ins_at]
      by_cases hij : i = j
      · subst hij; rw [if_pos ⟨rfl, rfl⟩]
      · rw [if_neg, if_neg, ih (by omega)]
        · intro ⟨h1, h2⟩
          have := code_cut (k := j) hi h1
          omega
        · intro ⟨h1, h2⟩
          exact code_ne hi hij h2 h1
/-- a code's beginning -/
theorem tab_pre {ns : List Nat} {i l : Nat} (hl : l < len ns i) : ∀ j, i < j → tabTo ns j (code ns i / 2 ^ (len ns i - l)) l = some (-1) := by
  intro j
  induction j with
  | zero => intro h; omega
  | succ j ih =>
    intro h
    rw [tabTo]
    by_cases hz : len ns j = 0
    · rw [if_pos hz]
      rcases Nat.lt_or_ge i j with h' | h'
      · exact ih h'
      · obtain rfl : i = j := by omega
        omega
    · rw [if_neg hz, ins_at]
      by_cases hij : i = j
      · subst hij; rw [if_neg (by omega), if_pos ⟨hl, rfl⟩]
      · rw [if_neg]
        · by_cases h2 : l < len ns j ∧ code ns i / 2 ^ (len ns i - l) = code ns j / 2 ^ (len ns j - l)
          · rw [if_pos h2]
          · rw [if_neg h2, ih (by omega)]
        · intro ⟨h1, h2⟩
          subst h2
          have := code_cut (i := j) (k := i) (by omega) hl
          omega
/-- nothing else is there -/
theorem tab_none {ns : List Nat} {c l : Nat} (h1 : ∀ i, 1 ≤ len ns i → len ns i = l → code ns i ≠ c) (h2 : ∀ i, l < len ns i → code ns i / 2 ^ (len ns i - l) ≠ c) : ∀ j, tabTo ns j c l = none := by
  intro j
  induction j with
  | zero => rfl
  | succ j ih =>
    rw [tabTo]
    by_cases hz : len ns j = 0
    · rw [if_pos hz]; exact ih
    · rw [if_neg hz, ins_at, if_neg, if_neg, ih]
      · intro ⟨a, b⟩; exact h2 j a b.symm
      · intro ⟨a, b⟩; exact h1 j (by omega) b.symm a.symm
theorem tab_long {ns : List Nat} (hs : Short ns) {c l : Nat} (h : 15 < l) (j : Nat) : tabTo ns j c l = none :=
  tab_none (fun i _ h2 => by have := len_le hs i; omega) (fun i h2 => by have := len_le hs i; omega) j

/-- a whole share: each fifteen bits begin with a code -/
theorem nth_of {ns : List Nat} (x : Nat) : ∀ r, r < ns.count x → ∃ i, i < ns.length ∧ ns.getD i 0 = x ∧ (ns.take i).count x = r := by
  induction ns with
  | nil => intro r h; simp at h
  | cons n t ih =>
    intro r h
    by_cases hn : n = x
    · subst hn
      cases r with
      | zero => exact ⟨0, by simp, by simp, by simp⟩
      | succ r =>
        rw [List.count_cons_self] at h
        obtain ⟨i, h1, h2, h3⟩ := ih r (by omega)
        exact ⟨i + 1, by simp; omega, by simpa using h2, by rw [List.take_succ_cons, List.count_cons_self, h3]⟩
    · rw [List.count_cons_of_ne hn] at h
      obtain ⟨i, h1, h2, h3⟩ := ih r h
      exact ⟨i + 1, by simp; omega, by simpa using h2, by rw [List.take_succ_cons, List.count_cons_of_ne hn, h3]⟩
theorem cover {ns : List Nat} (hs : Short ns) (hw : share ns = 32768) (v : Nat) (hv : v < 32768) : ∃ i, 1 ≤ len ns i ∧ v / 2 ^ (15 - len ns i) = code ns i := by
  have hall : v < psh 15 ns := by rw [psh_all ns hs, hw]; exact hv
  have key : ∀ L, L ≤ 15 → v < psh L ns → ∃ l, 1 ≤ l ∧ l ≤ L ∧ psh (l - 1) ns ≤ v ∧ v < psh l ns := by
    intro L
    induction L with
    | zero => intro _ h; rw [psh_zero] at h; omega
    | succ L ih =>
      intro hL h
      by_cases h' : v < psh L ns
      · obtain ⟨l, a, b, c⟩ := ih (by omega) h'
        exact ⟨l, a, by omega, c⟩
      · exact ⟨L + 1, by omega, Nat.le_refl _, by rw [Nat.add_sub_cancel]; omega, h⟩
  obtain ⟨l, h1, h15, ha, hb⟩ := key 15 (Nat.le_refl _) hall
  obtain ⟨L, rfl⟩ : ∃ L, l = L + 1 := ⟨l - 1, by omega⟩
  rw [Nat.add_sub_cancel, ← fst_psh ns L h15] at ha
  rw [← top_psh ns (L + 1) h1 h15] at hb
  have hp := Nat.two_pow_pos (15 - (L + 1))
  have q1 : fst ns (L + 1) ≤ v / 2 ^ (15 - (L + 1)) := (Nat.le_div_iff_mul_le hp).2 ha
  have q2 : v / 2 ^ (15 - (L + 1)) < fst ns (L + 1) + ns.count (L + 1) := (Nat.div_lt_iff_lt_mul hp).2 hb
  obtain ⟨i, i1, i2, i3⟩ := nth_of (ns := ns) (L + 1) (v / 2 ^ (15 - (L + 1)) - fst ns (L + 1)) (by omega)
  have hl : len ns i = L + 1 := i2
  refine ⟨i, by omega, ?_⟩
  rw [code_pos (by omega), hl, i3]; omega
end Go.Proofs.Ytcjcmlnbchmnnaa.Hm
