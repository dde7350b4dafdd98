/- Plain mathematics of layer 2: numbers as bytes, the sum of bytes (no program in sight). · Plain mathematics of layer 8: codes of unlike lengths: how they are shared out, that none begins another one, that a whole share leaves no bits over (no program in sight). · Plain mathematics of layer 8: bits read as symbols (no program in sight). · Plain mathematics of layer 8: bits that begin with a code are read as its symbol (no program in sight). · Plain mathematics of layer 8: how the reference finds codes, and what it asks of lengths (no program in sight). · Plain mathematics of layer 9: bits read as numbers, the first the lowest (no program in sight). · Plain mathematics of layer 9: what a symbol that was read is; more bytes behind (no program in sight). · Plain mathematics of layer 9: steps with more bytes behind, with bytes ahead, with less that may be told; every run ends (no program in sight). · Plain mathematics of layer 9: what numbers, lengths and distances that were read are (no program in sight). -/

/-! ### Cm -/
namespace Go.Proofs.Ytcjcmlnbchmnnaa.Cm

theorem take_snoc (s : ByteArray) (k : Nat) (h : k < s.size) : s.data.toList.take (k + 1) = s.data.toList.take k ++ [s[k]] := by
  rw [List.take_succ_eq_append_getElem (by simpa using h)]; rfl
theorem take_all (s : ByteArray) (k : Nat) (h : s.size ≤ k) : s.data.toList.take k = s.data.toList := by
  rw [List.take_of_length_le]; simpa using h
theorem len_list (s : ByteArray) : s.data.toList.length = s.size := by rw [Array.length_toList]; rfl
theorem byte_lt (c : UInt8) : c.toNat < 256 := c.toNat_lt

/-! numbers -/
def getN : List UInt8 → Nat
  | [] => 0
  | c :: r => c.toNat + 256 * getN r
theorem getN_lt (l : List UInt8) : getN l < 256 ^ l.length := by
  induction l with
  | nil => simp [getN]
  | cons c r ih => have := byte_lt c; simp only [getN, List.length_cons, Nat.pow_succ]; omega
theorem getN_append (a b : List UInt8) : getN (a ++ b) = getN a + 256 ^ a.length * getN b := by
  induction a with
  | nil => simp [getN]
  | cons c r ih => simp only [List.cons_append, getN, ih, List.length_cons, Nat.pow_succ, Nat.mul_add]; rw [Nat.mul_comm (256 ^ r.length) 256, Nat.mul_assoc]; omega
theorem getN_snoc (a : List UInt8) (c : UInt8) : getN (a ++ [c]) = getN a + 256 ^ a.length * c.toNat := by
  rw [getN_append]; simp [getN]
theorem drop_all (s : ByteArray) (k : Nat) (h : s.size ≤ k) : s.data.toList.drop k = [] := by
  apply List.drop_of_length_le; simpa using h
theorem drop_cons (s : ByteArray) (k : Nat) (h : k < s.size) : s.data.toList.drop k = s[k] :: s.data.toList.drop (k + 1) := by
  rw [List.drop_eq_getElem_cons (by simpa using h)]; rfl
theorem getN_drop (s : ByteArray) (k : Nat) (h : k < s.size) : getN (s.data.toList.drop k) = s[k].toNat + 256 * getN (s.data.toList.drop (k + 1)) := by
  rw [drop_cons s k h]; rfl
theorem getN_le_of (l : List UInt8) (h : l.length ≤ 7) : getN l < 72057594037927936 := by
  have h1 := getN_lt l
  have h2 : 256 ^ l.length ≤ 256 ^ 7 := Nat.pow_le_pow_right (by omega) h
  have h3 : (256 : Nat) ^ 7 = 72057594037927936 := by decide
  omega
theorem getN_max (s : ByteArray) (h : s.size ≤ 7) : getN s.data.toList < 72057594037927936 := getN_le_of _ (by rw [len_list]; exact h)
theorem getN_drop_max (s : ByteArray) (k : Nat) (h : s.size ≤ 7) : getN (s.data.toList.drop k) < 72057594037927936 := getN_le_of _ (by rw [List.length_drop, len_list]; omega)
def putL : Nat → Nat → List UInt8
  | _, 0 => []
  | n, k + 1 => UInt8.ofNat n :: putL (n / 256) k
theorem putL_length (n k : Nat) : (putL n k).length = k := by
  induction k generalizing n with
  | zero => rfl
  | succ k ih => simp [putL, ih]
theorem getN_putL (n k : Nat) : getN (putL n k) = n % 256 ^ k := by
  induction k generalizing n with
  | zero => simp [putL, getN, Nat.mod_one]
  | succ k ih =>
    simp only [putL, getN, ih, UInt8.toNat_ofNat']
    rw [Nat.pow_succ (m := k), Nat.mul_comm (256 ^ k) 256, Nat.mod_mul]
theorem putL_getN (l : List UInt8) : putL (getN l) l.length = l := by
  induction l with
  | nil => rfl
  | cons c r ih =>
    have hc := byte_lt c
    have h1 : (c.toNat + 256 * getN r) / 256 = getN r := by omega
    have h2 : UInt8.ofNat (c.toNat + 256 * getN r) = c := by
      apply UInt8.toNat_inj.1; rw [UInt8.toNat_ofNat']; omega
    simp only [getN, List.length_cons, putL, h1, h2, ih]
theorem putL_snoc (n k : Nat) : putL n (k + 1) = putL n k ++ [UInt8.ofNat (n / 256 ^ k)] := by
  induction k generalizing n with
  | zero => simp [putL]
  | succ k ih =>
    rw [putL, ih]; simp only [putL, List.cons_append]; rw [Nat.div_div_eq_div_mul, Nat.pow_succ, Nat.mul_comm]

/-! sums -/
def poly : Nat := 3988292384
def step (r : Nat) : Nat := if r % 2 = 1 then (r / 2) ^^^ poly else r / 2
def steps : Nat → Nat → Nat
  | 0, r => r
  | k + 1, r => step (steps k r)
def byteStep (r : Nat) (c : UInt8) : Nat := steps 8 (r ^^^ c.toNat)
def run (r : Nat) (l : List UInt8) : Nat := l.foldl byteStep r
def inv (r : Nat) : Nat := 4294967295 - r
def crc (sum : Nat) (l : List UInt8) : Nat := inv (run (inv sum) l)

theorem step_lt (r : Nat) (h : r < 4294967296) : step r < 4294967296 := by
  unfold step poly; split
  · exact Nat.xor_lt_two_pow (n := 32) (by omega) (by omega)
  · omega
theorem steps_lt (k r : Nat) (h : r < 4294967296) : steps k r < 4294967296 := by
  induction k with
  | zero => exact h
  | succ k ih => exact step_lt _ ih
theorem xor_byte_lt (r : Nat) (c : UInt8) (h : r < 4294967296) : r ^^^ c.toNat < 4294967296 :=
  Nat.xor_lt_two_pow (n := 32) (by omega) (by have := byte_lt c; omega)
theorem byteStep_lt (r : Nat) (c : UInt8) (h : r < 4294967296) : byteStep r c < 4294967296 := steps_lt _ _ (xor_byte_lt r c h)
theorem run_lt (l : List UInt8) (r : Nat) (h : r < 4294967296) : run r l < 4294967296 := by
  induction l generalizing r with
  | nil => exact h
  | cons c l ih => exact ih _ (byteStep_lt _ _ h)
theorem run_append (r : Nat) (a b : List UInt8) : run r (a ++ b) = run (run r a) b := List.foldl_append ..
theorem run_snoc (r : Nat) (a : List UInt8) (c : UInt8) : run r (a ++ [c]) = byteStep (run r a) c := by rw [run_append]; rfl
theorem inv_lt (r : Nat) : inv r < 4294967296 := by unfold inv; omega
theorem inv_inv (r : Nat) (h : r < 4294967296) : inv (inv r) = r := by unfold inv; omega
theorem crc_lt (s : Nat) (l : List UInt8) : crc s l < 4294967296 := inv_lt _
theorem crc_append (s : Nat) (a b : List UInt8) : crc (crc s a) b = crc s (a ++ b) := by
  unfold crc; rw [inv_inv _ (run_lt _ _ (inv_lt _)), run_append]
theorem crc_nil (s : Nat) (h : s < 4294967296) : crc s [] = s := inv_inv s h

/-! the sum is linear -/
theorem inv_xor (r : Nat) (h : r < 4294967296) : inv r = 4294967295 ^^^ r := by
  apply Nat.eq_of_testBit_eq
  intro i
  have e : inv r = 2 ^ 32 - (r + 1) := by unfold inv; omega
  rw [e, Nat.testBit_two_pow_sub_succ h, Nat.testBit_xor]
  have : (4294967295 : Nat).testBit i = decide (i < 32) := by
    rw [show (4294967295 : Nat) = 2 ^ 32 - 1 by rfl, Nat.testBit_two_pow_sub_one]
  rw [this]
  by_cases hi : i < 32
  · simp [hi]
  · have : r.testBit i = false := Nat.testBit_lt_two_pow (Nat.lt_of_lt_of_le h (Nat.pow_le_pow_right (n := 2) (by omega) (by omega : 32 ≤ i)))
    simp [hi, this]
theorem step_xor (a b : Nat) : step (a ^^^ b) = step a ^^^ step b := by
  have h2 : ∀ x y : Nat, x < 2 → y < 2 → x ^^^ y = (x + y) % 2 := by
    intro x y hx hy
    rcases (by omega : x = 0 ∨ x = 1) with rfl | rfl <;> rcases (by omega : y = 0 ∨ y = 1) with rfl | rfl <;> rfl
  have hm : (a ^^^ b) % 2 = (a % 2 + b % 2) % 2 := by
    have h := @Nat.xor_mod_two_pow a b 1
    rw [Nat.pow_one] at h
    rw [h, h2 (a % 2) (b % 2) (by omega) (by omega)]
  have hd : (a ^^^ b) / 2 = a / 2 ^^^ b / 2 := by rw [Nat.xor_div_two]
  unfold step
  rw [hd]
  rcases Nat.mod_two_eq_zero_or_one a with ha | ha <;> rcases Nat.mod_two_eq_zero_or_one b with hb | hb <;> simp only [hm, ha, hb] <;> simp
  · rw [Nat.xor_assoc]
  · rw [Nat.xor_assoc, Nat.xor_comm (b / 2) poly, ← Nat.xor_assoc]
  · rw [Nat.xor_assoc, Nat.xor_comm (b / 2) poly, ← Nat.xor_assoc poly, Nat.xor_self, Nat.zero_xor]
theorem steps_xor (k a b : Nat) : steps k (a ^^^ b) = steps k a ^^^ steps k b := by
  induction k with
  | zero => rfl
  | succ k ih => simp only [steps, ih, step_xor]
theorem step_inj {a b : Nat} (ha : a < 4294967296) (hb : b < 4294967296) (h : step a = step b) : a = b := by
  have key : ∀ r, r < 4294967296 → (step r).testBit 31 = decide (r % 2 = 1) := by
    intro r hr
    unfold step
    have h0 : (r / 2).testBit 31 = false := Nat.testBit_lt_two_pow (by omega)
    split
    · rename_i e; rw [Nat.testBit_xor, h0]; simp [e]; decide
    · rename_i e; rw [h0]; simp [e]
  have k1 := key a ha
  have k2 := key b hb
  rw [h, k2] at k1
  have e : a % 2 = b % 2 := by
    have := k1
    simp only [decide_eq_decide] at this
    omega
  have d : a / 2 = b / 2 := by
    unfold step at h
    by_cases p : a % 2 = 1
    · rw [if_pos p, if_pos (by omega)] at h
      have := congrArg (· ^^^ poly) h
      simpa [Nat.xor_assoc] using this
    · rw [if_neg p, if_neg (by omega)] at h; exact h
  omega
theorem steps_inj (k : Nat) {a b : Nat} (ha : a < 4294967296) (hb : b < 4294967296) (h : steps k a = steps k b) : a = b := by
  induction k with
  | zero => exact h
  | succ k ih => exact ih (step_inj (steps_lt _ _ ha) (steps_lt _ _ hb) h)
theorem step_zero : step 0 = 0 := by decide
theorem steps_zero (k : Nat) : steps k 0 = 0 := by
  induction k with
  | zero => rfl
  | succ k ih => simp only [steps, ih, step_zero]

/-! digits -/
def digit (n : Nat) : UInt8 := if n < 10 then UInt8.ofNat (48 + n) else UInt8.ofNat (87 + n)
def hex : List UInt8 → List UInt8
  | [] => []
  | c :: r => digit (c.toNat / 16) :: digit (c.toNat % 16) :: hex r
theorem hex_append (a b : List UInt8) : hex (a ++ b) = hex a ++ hex b := by
  induction a with
  | nil => rfl
  | cons c a ih => simp [hex, ih]
theorem hex_snoc (a : List UInt8) (c : UInt8) : hex (a ++ [c]) = hex a ++ [digit (c.toNat / 16), digit (c.toNat % 16)] := by rw [hex_append]; rfl
theorem hex_length (a : List UInt8) : (hex a).length = 2 * a.length := by
  induction a with
  | nil => rfl
  | cons c a ih => simp [hex, ih]; omega
def undig (c : Nat) : Option Nat := if 48 ≤ c ∧ c ≤ 57 then some (c - 48) else if 97 ≤ c ∧ c ≤ 102 then some (c - 87) else none
theorem undig_lt {c n : Nat} (h : undig c = some n) : n < 16 := by
  unfold undig at h; split at h
  · simp at h; omega
  · split at h
    · simp at h; omega
    · simp at h
def unhex : List UInt8 → Option (List UInt8)
  | [] => some []
  | [_] => none
  | a :: b :: r => match undig a.toNat, undig b.toNat with
    | some x, some y => (unhex r).map (UInt8.ofNat (16 * x + y) :: ·)
    | _, _ => none
theorem unhex_cons (a b : UInt8) (r : List UInt8) {x y : Nat} (ha : undig a.toNat = some x) (hb : undig b.toNat = some y) : unhex (a :: b :: r) = (unhex r).map (UInt8.ofNat (16 * x + y) :: ·) := by
  simp only [unhex, ha, hb]
theorem unhex_none (a b : UInt8) (r : List UInt8) (h : undig a.toNat = none ∨ undig b.toNat = none) : unhex (a :: b :: r) = none := by
  rcases h with h | h
  · simp only [unhex, h]
  · simp only [unhex, h]; split <;> simp_all
theorem undig_digit (n : Nat) (h : n < 16) : undig (digit n).toNat = some n := by
  have all : ∀ n : Fin 16, undig (digit n.val).toNat = some n.val := by decide
  exact all ⟨n, h⟩
theorem digit_undig (c : UInt8) (n : Nat) (h : undig c.toNat = some n) : digit n = c := by
  have all : ∀ k : Fin 256, ∀ m, undig k.val = some m → digit m = UInt8.ofNat k.val := by
    intro k m
    unfold undig digit
    have := k.isLt
    split
    · intro e; simp at e; subst e; rw [if_pos (by omega)]; congr 1; omega
    · split
      · intro e; simp at e; subst e; rw [if_neg (by omega)]; congr 1; omega
      · intro e; simp at e
  have := all ⟨c.toNat, byte_lt c⟩ n h
  simpa using this
theorem unhex_hex (l : List UInt8) : unhex (hex l) = some l := by
  induction l with
  | nil => rfl
  | cons c l ih =>
    have hc := byte_lt c
    rw [hex, unhex_cons _ _ _ (undig_digit (c.toNat / 16) (by omega)) (undig_digit (c.toNat % 16) (by omega)), ih]
    have : UInt8.ofNat (16 * (c.toNat / 16) + c.toNat % 16) = c := by apply UInt8.toNat_inj.1; rw [UInt8.toNat_ofNat']; omega
    simp [this]
theorem hex_unhex (l : List UInt8) : ∀ t, unhex l = some t → hex t = l := by
  induction l using unhex.induct with
  | case1 => intro t h; simp [unhex] at h; subst h; rfl
  | case2 => intro t h; simp [unhex] at h
  | case3 a b r x y hb ha ih =>
    intro t h
    rw [unhex_cons _ _ _ ha hb] at h
    cases hr : unhex r with
    | none => rw [hr] at h; simp at h
    | some u =>
      rw [hr, Option.map_some, Option.some.injEq] at h
      subst h
      have h1 := undig_lt ha
      have h2 := undig_lt hb
      have e : (UInt8.ofNat (16 * x + y)).toNat = 16 * x + y := by rw [UInt8.toNat_ofNat']; omega
      rw [hex, e, show (16 * x + y) / 16 = x by omega, show (16 * x + y) % 16 = y by omega, digit_undig a x ha, digit_undig b y hb, ih u hr]
  | case4 a b r h => intro t e; rw [unhex_none] at e; simp at e; cases ha : undig a.toNat with
    | none => exact .inl rfl
    | some x => cases hb : undig b.toNat with
      | none => exact .inr rfl
      | some y => exact (h x y ha hb).elim
theorem unhex_odd (l : List UInt8) : l.length % 2 = 1 → unhex l = none := by
  induction l using unhex.induct with
  | case1 => intro h; simp at h
  | case2 => intro _; rfl
  | case3 a b r x y hb ha ih => intro h; rw [unhex_cons _ _ _ ha hb, ih (by simp at h; omega)]; rfl
  | case4 a b r h => intro _; rw [unhex_none]; cases ha : undig a.toNat with
    | none => exact .inl rfl
    | some x => cases hb : undig b.toNat with
      | none => exact .inr rfl
      | some y => exact (h x y ha hb).elim
end Go.Proofs.Ytcjcmlnbchmnnaa.Cm
/-! ### Hm -/
namespace Go.Proofs.Ytcjcmlnbchmnnaa.Hm

/-! counts and shares -/
def part (n : Nat) : Nat := if n = 0 then 0 else 2 ^ (15 - n)
def share : List Nat → Nat
  | [] => 0
  | n :: r => part n + share r
def psh (L : Nat) : List Nat → Nat
  | [] => 0
  | n :: r => (if n ≤ L then part n else 0) + psh L r
def cn (ns : List Nat) (l : Nat) : Nat := if l = 0 then 0 else ns.count l
def fst (ns : List Nat) : Nat → Nat
  | 0 => 0
  | l + 1 => 2 * (fst ns l + cn ns l)
def len (ns : List Nat) (i : Nat) : Nat := ns.getD i 0
def code (ns : List Nat) (i : Nat) : Nat := if len ns i = 0 then 0 else fst ns (len ns i) + (ns.take i).count (len ns i)
def Short (ns : List Nat) : Prop := ∀ n ∈ ns, n ≤ 15

/-- why lengths may not be (0: they may) -/
def err (ns : List Nat) : Int := if 32768 < share ns then 81 else if share ns < 32768 ∧ 0 < share ns ∧ (ns.count 1 ≠ 1 ∨ 16384 < share ns) then 82 else 0

theorem share_append (a b : List Nat) : share (a ++ b) = share a + share b := by
  induction a with
  | nil => simp [share]
  | cons n a ih => simp [share, ih]; omega
theorem psh_zero (ns : List Nat) : psh 0 ns = 0 := by
  induction ns with
  | nil => rfl
  | cons n r ih =>
    simp only [psh, ih, part]
    split
    · rename_i h; simp [show n = 0 by omega]
    · rfl
theorem psh_succ (L : Nat) (ns : List Nat) : psh (L + 1) ns = psh L ns + ns.count (L + 1) * 2 ^ (15 - (L + 1)) := by
  induction ns with
  | nil => simp [psh]
  | cons n r ih =>
    simp only [psh, ih, List.count_cons]
    by_cases h : n = L + 1
    · subst h
      rw [if_pos (Nat.le_refl _), if_neg (by omega)]
      simp only [part, Nat.add_one_ne_zero, if_false, beq_self_eq_true, if_true, Nat.add_mul, Nat.one_mul]
      omega
    · by_cases h' : n ≤ L
      · rw [if_pos (by omega), if_pos h']; simp [h]; omega
      · rw [if_neg (by omega), if_neg h']; simp [h]
theorem psh_le (L : Nat) (ns : List Nat) : psh L ns ≤ share ns := by
  induction ns with
  | nil => exact Nat.le_refl _
  | cons n r ih => simp only [psh, share]; split <;> omega
theorem psh_all (ns : List Nat) (h : Short ns) : psh 15 ns = share ns := by
  induction ns with
  | nil => rfl
  | cons n r ih =>
    simp only [psh, share]
    rw [if_pos (h n (by simp)), ih (fun m hm => h m (by simp [hm]))]
theorem psh_mono (ns : List Nat) {a b : Nat} (h : a ≤ b) : psh a ns ≤ psh b ns := by
  induction ns with
  | nil => exact Nat.le_refl _
  | cons n r ih => simp only [psh]; split <;> split <;> omega
theorem fst_psh (ns : List Nat) (L : Nat) (h : L + 1 ≤ 15) : fst ns (L + 1) * 2 ^ (15 - (L + 1)) = psh L ns := by
  induction L with
  | zero => simp [fst, cn, psh_zero]
  | succ L ih =>
    have ih' := ih (by omega)
    rw [fst, psh_succ, ← ih']
    have e : 15 - (L + 1) = (15 - (L + 1 + 1)) + 1 := by omega
    rw [e, Nat.pow_succ]
    generalize 2 ^ (15 - (L + 1 + 1)) = p
    simp only [cn, Nat.add_one_ne_zero, if_false]
    generalize fst ns (L + 1) = x
    generalize ns.count (L + 1) = y
    rw [Nat.mul_comm p 2, ← Nat.mul_assoc, ← Nat.mul_assoc, ← Nat.add_mul]
    congr 1; omega
theorem top_psh (ns : List Nat) (l : Nat) (h1 : 1 ≤ l) (h : l ≤ 15) : (fst ns l + ns.count l) * 2 ^ (15 - l) = psh l ns := by
  obtain ⟨L, rfl⟩ : ∃ L, l = L + 1 := ⟨l - 1, by omega⟩
  rw [Nat.add_mul, fst_psh ns L h, psh_succ]
theorem top_le (ns : List Nat) (hs : share ns ≤ 32768) (l : Nat) (h1 : 1 ≤ l) (h : l ≤ 15) : fst ns l + ns.count l ≤ 2 ^ l := by
  have h2 := top_psh ns l h1 h
  have h3 := psh_le l ns
  have h4 : (32768 : Nat) = 2 ^ l * 2 ^ (15 - l) := by rw [← Nat.pow_add, show l + (15 - l) = 15 by omega]
  have h5 : (fst ns l + ns.count l) * 2 ^ (15 - l) ≤ 2 ^ l * 2 ^ (15 - l) := by omega
  exact Nat.le_of_mul_le_mul_right h5 (Nat.two_pow_pos _)
/-- what begins behind the codes of a shorter length -/
theorem fst_ge (ns : List Nat) (m n : Nat) (h1 : 1 ≤ m) (h : m < n) : (fst ns m + ns.count m) * 2 ^ (n - m) ≤ fst ns n := by
  obtain ⟨d, rfl⟩ : ∃ d, n = m + 1 + d := ⟨n - m - 1, by omega⟩
  induction d with
  | zero =>
    rw [show m + 1 + 0 - m = 1 by omega, show m + 1 + 0 = m + 1 by omega, fst, cn, if_neg (by omega)]
    omega
  | succ d ih =>
    have := ih (by omega)
    rw [show m + 1 + (d + 1) - m = (m + 1 + d - m) + 1 by omega, show m + 1 + (d + 1) = (m + 1 + d) + 1 by omega, Nat.pow_succ, ← Nat.mul_assoc, fst]
    omega

/-! places of symbols -/
theorem len_lt {ns : List Nat} {i : Nat} (h : 1 ≤ len ns i) : i < ns.length := by
  unfold len at h
  rcases Nat.lt_or_ge i ns.length with h' | h'
  · exact h'
  · rw [List.getD_eq_getElem?_getD, List.getElem?_eq_none h'] at h; simp at h
theorem len_get {ns : List Nat} {i : Nat} (h : i < ns.length) : len ns i = ns[i] := by simp [len, h]
theorem len_le {ns : List Nat} (hs : Short ns) (i : Nat) : len ns i ≤ 15 := by
  rcases Nat.lt_or_ge i ns.length with h | h
  · rw [len_get h]; exact hs _ (List.getElem_mem h)
  · unfold len; rw [List.getD_eq_getElem?_getD, List.getElem?_eq_none h]; simp
theorem rank_lt {ns : List Nat} {i : Nat} (h : i < ns.length) : (ns.take i).count (len ns i) < ns.count (len ns i) := by
  have e : ns = ns.take i ++ ns[i] :: ns.drop (i + 1) := by simp
  rw [len_get h]
  generalize hx : ns[i] = x at *
  have : ns.count x = (ns.take i).count x + (x :: ns.drop (i + 1)).count x := by
    conv => lhs; rw [e]
    rw [List.count_append]
  rw [this, List.count_cons_self]; omega
theorem count_take_mono (ns : List Nat) (x : Nat) {i k : Nat} (h : i ≤ k) : (ns.take i).count x ≤ (ns.take k).count x := by
  have : ns.take i = (ns.take k).take i := by rw [List.take_take, Nat.min_eq_left h]
  rw [this]
  exact List.Sublist.count_le _ (List.take_sublist _ _)
theorem count_take_succ (ns : List Nat) (x : Nat) {i : Nat} (h : i < ns.length) : (ns.take (i + 1)).count x = (ns.take i).count x + if ns[i] = x then 1 else 0 := by
  rw [List.take_succ_eq_append_getElem h, List.count_append, List.count_singleton]
  simp only [beq_iff_eq]
theorem rank_mono {ns : List Nat} {i k : Nat} (hk : k < ns.length) (h : i < k) (e : len ns i = len ns k) : (ns.take i).count (len ns k) < (ns.take k).count (len ns k) := by
  have hi : i < ns.length := by omega
  have h1 := count_take_succ ns (len ns k) hi
  rw [if_pos (by rw [← len_get hi]; exact e)] at h1
  have h2 := count_take_mono ns (len ns k) (show i + 1 ≤ k by omega)
  omega
theorem code_pos {ns : List Nat} {i : Nat} (h : 1 ≤ len ns i) : code ns i = fst ns (len ns i) + (ns.take i).count (len ns i) := by
  unfold code; rw [if_neg (by omega)]
theorem code_top {ns : List Nat} {i : Nat} (h : 1 ≤ len ns i) : code ns i < fst ns (len ns i) + ns.count (len ns i) := by
  rw [code_pos h]; have := rank_lt (len_lt h); omega
theorem code_lt {ns : List Nat} (hs : Short ns) (hsh : share ns ≤ 32768) (i : Nat) : code ns i < 2 ^ len ns i := by
  by_cases h : 1 ≤ len ns i
  · exact Nat.lt_of_lt_of_le (code_top h) (top_le ns hsh _ h (len_le hs i))
  · unfold code; rw [if_pos (by omega)]; exact Nat.two_pow_pos _
theorem code_lt_max {ns : List Nat} (hs : Short ns) (hsh : share ns ≤ 32768) (i : Nat) : code ns i < 32768 :=
  Nat.lt_of_lt_of_le (code_lt hs hsh i) (Nat.pow_le_pow_right (n := 2) (by omega) (len_le hs i))
/-- codes of one length rise with their symbols -/
theorem code_rise {ns : List Nat} {i k : Nat} (hk : 1 ≤ len ns k) (h : i < k) (e : len ns i = len ns k) : code ns i < code ns k := by
  rw [code_pos hk, code_pos (by omega), e]
  have := rank_mono (len_lt hk) h e
  omega
/-- a longer one, cut to a shorter one's length, stands behind it -/
theorem code_cut {ns : List Nat} {i k : Nat} (hi : 1 ≤ len ns i) (h : len ns i < len ns k) : code ns i < code ns k / 2 ^ (len ns k - len ns i) := by
  have h1 := fst_ge ns (len ns i) (len ns k) hi h
  have h2 := code_top hi
  have h3 : fst ns (len ns k) ≤ code ns k := by rw [code_pos (by omega)]; omega
  have h4 : fst ns (len ns i) + ns.count (len ns i) ≤ code ns k / 2 ^ (len ns k - len ns i) :=
    (Nat.le_div_iff_mul_le (Nat.two_pow_pos _)).2 (Nat.le_trans h1 h3)
  omega
theorem code_ne {ns : List Nat} {i k : Nat} (hi : 1 ≤ len ns i) (hne : i ≠ k) (e : len ns i = len ns k) : code ns i ≠ code ns k := by
  rcases Nat.lt_or_ge i k with h | h
  · have := code_rise (by omega) h e; omega
  · have := code_rise (ns := ns) (i := k) (k := i) hi (by omega) e.symm; omega

/-! the table, as it is laid -/
def upd (f : Nat → Nat → Option Int) (a b : Nat) (v : Int) : Nat → Nat → Option Int := fun c d => if c = a ∧ d = b then some v else f c d
def insP (f : Nat → Nat → Option Int) (c L : Nat) : Nat → Nat → Nat → Option Int
  | 0 => f
  | k + 1 => upd (insP f c L k) (c / 2 ^ (L - k)) k (-1)
def ins (f : Nat → Nat → Option Int) (c L i : Nat) : Nat → Nat → Option Int := upd (insP f c L L) c L (i : Int)
def tabTo (ns : List Nat) : Nat → Nat → Nat → Option Int
  | 0 => fun _ _ => none
  | i + 1 => if len ns i = 0 then tabTo ns i else ins (tabTo ns i) (code ns i) (len ns i) i
def tab (ns : List Nat) : Nat → Nat → Option Int := tabTo ns ns.length

theorem insP_at (f : Nat → Nat → Option Int) (C L k c l : Nat) : insP f C L k c l = if l < k ∧ c = C / 2 ^ (L - l) then some (-1) else f c l := by
  induction k with
  | zero => rw [insP, if_neg (by omega)]
  | succ k ih =>
    rw [insP, upd, ih]
    by_cases h : c = C / 2 ^ (L - k) ∧ l = k
    · rw [if_pos h, if_pos ⟨by omega, by rw [h.2]; exact h.1⟩]
    · rw [if_neg h]
      by_cases h2 : l < k ∧ c = C / 2 ^ (L - l)
      · rw [if_pos h2, if_pos ⟨by omega, h2.2⟩]
      · rw [if_neg h2, if_neg]
        intro ⟨h3, h4⟩
        rcases Nat.lt_or_ge l k with h5 | h5
        · exact h2 ⟨h5, h4⟩
        · have : l = k := by omega
          subst this; exact h ⟨h4, rfl⟩
theorem ins_at (f : Nat → Nat → Option Int) (C L i c l : Nat) : ins f C L i c l = if c = C ∧ l = L then some (i : Int) else if l < L ∧ c = C / 2 ^ (L - l) then some (-1) else f c l := by
  rw [ins, upd, insP_at]
/-- a code is read as its symbol -/
theorem tab_code {ns : List Nat} {i : Nat} (hi : 1 ≤ len ns i) : ∀ j, i < j → tabTo ns j (code ns i) (len ns i) = some (i : Int) := by
  intro j
  induction j with
  | zero => intro h; omega
  | succ j ih =>
    intro h
    rw [tabTo]
    by_cases hz : len ns j = 0
    · rw [if_pos hz]
      rcases Nat.lt_or_ge i j with h' | h'
      · exact ih h'
      · obtain rfl : i = j := by omega
        omega
    · rw [if_neg hz, ins_at]
      by_cases hij : i = j
      · subst hij; rw [if_pos ⟨rfl, rfl⟩]
      · rw [if_neg, if_neg, ih (by omega)]
        · intro ⟨h1, h2⟩
          have := code_cut (k := j) hi h1
          omega
        · intro ⟨h1, h2⟩
          exact code_ne hi hij h2 h1
/-- a code's beginning -/
theorem tab_pre {ns : List Nat} {i l : Nat} (hl : l < len ns i) : ∀ j, i < j → tabTo ns j (code ns i / 2 ^ (len ns i - l)) l = some (-1) := by
  intro j
  induction j with
  | zero => intro h; omega
  | succ j ih =>
    intro h
    rw [tabTo]
    by_cases hz : len ns j = 0
    · rw [if_pos hz]
      rcases Nat.lt_or_ge i j with h' | h'
      · exact ih h'
      · obtain rfl : i = j := by omega
        omega
    · rw [if_neg hz, ins_at]
      by_cases hij : i = j
      · subst hij; rw [if_neg (by omega), if_pos ⟨hl, rfl⟩]
      · rw [if_neg]
        · by_cases h2 : l < len ns j ∧ code ns i / 2 ^ (len ns i - l) = code ns j / 2 ^ (len ns j - l)
          · rw [if_pos h2]
          · rw [if_neg h2, ih (by omega)]
        · intro ⟨h1, h2⟩
          subst h2
          have := code_cut (i := j) (k := i) (by omega) hl
          omega
/-- nothing else is there -/
theorem tab_none {ns : List Nat} {c l : Nat} (h1 : ∀ i, 1 ≤ len ns i → len ns i = l → code ns i ≠ c) (h2 : ∀ i, l < len ns i → code ns i / 2 ^ (len ns i - l) ≠ c) : ∀ j, tabTo ns j c l = none := by
  intro j
  induction j with
  | zero => rfl
  | succ j ih =>
    rw [tabTo]
    by_cases hz : len ns j = 0
    · rw [if_pos hz]; exact ih
    · rw [if_neg hz, ins_at, if_neg, if_neg, ih]
      · intro ⟨a, b⟩; exact h2 j a b.symm
      · intro ⟨a, b⟩; exact h1 j (by omega) b.symm a.symm
theorem tab_long {ns : List Nat} (hs : Short ns) {c l : Nat} (h : 15 < l) (j : Nat) : tabTo ns j c l = none :=
  tab_none (fun i _ h2 => by have := len_le hs i; omega) (fun i h2 => by have := len_le hs i; omega) j

/-- a whole share: each fifteen bits begin with a code -/
theorem nth_of {ns : List Nat} (x : Nat) : ∀ r, r < ns.count x → ∃ i, i < ns.length ∧ ns.getD i 0 = x ∧ (ns.take i).count x = r := by
  induction ns with
  | nil => intro r h; simp at h
  | cons n t ih =>
    intro r h
    by_cases hn : n = x
    · subst hn
      cases r with
      | zero => exact ⟨0, by simp, by simp, by simp⟩
      | succ r =>
        rw [List.count_cons_self] at h
        obtain ⟨i, h1, h2, h3⟩ := ih r (by omega)
        exact ⟨i + 1, by simp; omega, by simpa using h2, by rw [List.take_succ_cons, List.count_cons_self, h3]⟩
    · rw [List.count_cons_of_ne hn] at h
      obtain ⟨i, h1, h2, h3⟩ := ih r h
      exact ⟨i + 1, by simp; omega, by simpa using h2, by rw [List.take_succ_cons, List.count_cons_of_ne hn, h3]⟩
theorem cover {ns : List Nat} (hs : Short ns) (hw : share ns = 32768) (v : Nat) (hv : v < 32768) : ∃ i, 1 ≤ len ns i ∧ v / 2 ^ (15 - len ns i) = code ns i := by
  have hall : v < psh 15 ns := by rw [psh_all ns hs, hw]; exact hv
  have key : ∀ L, L ≤ 15 → v < psh L ns → ∃ l, 1 ≤ l ∧ l ≤ L ∧ psh (l - 1) ns ≤ v ∧ v < psh l ns := by
    intro L
    induction L with
    | zero => intro _ h; rw [psh_zero] at h; omega
    | succ L ih =>
      intro hL h
      by_cases h' : v < psh L ns
      · obtain ⟨l, a, b, c⟩ := ih (by omega) h'
        exact ⟨l, a, by omega, c⟩
      · exact ⟨L + 1, by omega, Nat.le_refl _, by rw [Nat.add_sub_cancel]; omega, h⟩
  obtain ⟨l, h1, h15, ha, hb⟩ := key 15 (Nat.le_refl _) hall
  obtain ⟨L, rfl⟩ : ∃ L, l = L + 1 := ⟨l - 1, by omega⟩
  rw [Nat.add_sub_cancel, ← fst_psh ns L h15] at ha
  rw [← top_psh ns (L + 1) h1 h15] at hb
  have hp := Nat.two_pow_pos (15 - (L + 1))
  have q1 : fst ns (L + 1) ≤ v / 2 ^ (15 - (L + 1)) := (Nat.le_div_iff_mul_le hp).2 ha
  have q2 : v / 2 ^ (15 - (L + 1)) < fst ns (L + 1) + ns.count (L + 1) := (Nat.div_lt_iff_lt_mul hp).2 hb
  obtain ⟨i, i1, i2, i3⟩ := nth_of (ns := ns) (L + 1) (v / 2 ^ (15 - (L + 1)) - fst ns (L + 1)) (by omega)
  have hl : len ns i = L + 1 := i2
  refine ⟨i, by omega, ?_⟩
  rw [code_pos (by omega), hl, i3]; omega
end Go.Proofs.Ytcjcmlnbchmnnaa.Hm
/-! ### HmRead -/
namespace Go.Proofs.Ytcjcmlnbchmnnaa.Hm

def bitOf (s : List UInt8) (bit : Nat) : Nat := (s.getD (bit / 8) 0).toNat / 2 ^ (bit % 8) % 2
theorem bitOf_le (s : List UInt8) (bit : Nat) : bitOf s bit ≤ 1 := by unfold bitOf; omega
def rd (f : Nat → Nat → Option Int) (s : List UInt8) : Nat → Nat → Nat → Nat → Int × Int × Int
  | 0, _, _, _ => (0, 0, 83)
  | n + 1, c, l, bit => match f c l with
    | none => (0, 0, 83)
    | some x => if 0 ≤ x then (x, bit, 0) else if s.length ≤ bit / 8 then (0, 0, 84) else rd f s n (2 * c + bitOf s bit) (l + 1) (bit + 1)
theorem rd_none {f : Nat → Nat → Option Int} {s : List UInt8} {n c l bit : Nat} (h : f c l = none) : rd f s (n + 1) c l bit = (0, 0, 83) := by simp only [rd, h]
theorem rd_sym {f : Nat → Nat → Option Int} {s : List UInt8} {n c l bit : Nat} {x : Int} (h : f c l = some x) (hx : 0 ≤ x) : rd f s (n + 1) c l bit = (x, (bit : Int), 0) := by simp only [rd, h, if_pos hx]
theorem rd_end {f : Nat → Nat → Option Int} {s : List UInt8} {n c l bit : Nat} {x : Int} (h : f c l = some x) (hx : ¬ 0 ≤ x) (hb : s.length ≤ bit / 8) : rd f s (n + 1) c l bit = (0, 0, 84) := by simp only [rd, h, if_neg hx, if_pos hb]
theorem rd_on {f : Nat → Nat → Option Int} {s : List UInt8} {n c l bit : Nat} {x : Int} (h : f c l = some x) (hx : ¬ 0 ≤ x) (hb : ¬ s.length ≤ bit / 8) : rd f s (n + 1) c l bit = rd f s n (2 * c + bitOf s bit) (l + 1) (bit + 1) := by simp only [rd, h, if_neg hx, if_neg hb]
/-- the symbol at a bit -/
def read (ns : List Nat) (s : List UInt8) (bit : Nat) : Int × Int × Int := rd (tab ns) s 17 0 0 bit
end Go.Proofs.Ytcjcmlnbchmnnaa.Hm
/-! ### HmFollow -/
namespace Go.Proofs.Ytcjcmlnbchmnnaa.Hm

/-- the number of so many bits from a bit on, the first the highest -/
def pv (s : List UInt8) (b : Nat) : Nat → Nat
  | 0 => 0
  | n + 1 => 2 * pv s b n + bitOf s (b + n)
theorem pv_lt (s : List UInt8) (b n : Nat) : pv s b n < 2 ^ n := by
  induction n with
  | zero => simp [pv]
  | succ n ih => have := bitOf_le s (b + n); rw [pv, Nat.pow_succ]; omega
theorem pv_cut (s : List UInt8) (b l d : Nat) : pv s b (l + d) / 2 ^ d = pv s b l := by
  induction d with
  | zero => simp
  | succ d ih =>
    have := bitOf_le s (b + (l + d))
    rw [← Nat.add_assoc, pv, Nat.pow_succ, Nat.mul_comm (2 ^ d) 2, ← Nat.div_div_eq_div_mul, ← ih]
    congr 1; omega
theorem rd_follow {ns : List Nat} {s : List UInt8} {b i : Nat} (hi : 1 ≤ len ns i) (hs : Short ns) (hp : pv s b (len ns i) = code ns i) (ha : ∀ j, j < len ns i → (b + j) / 8 < s.length) :
    ∀ d l n, l + d = len ns i → 16 < n + l → rd (tab ns) s n (pv s b l) l (b + l) = ((i : Int), ((b + len ns i : Nat) : Int), 0) := by
  intro d
  induction d with
  | zero =>
    intro l n hl hn
    have h15 := len_le hs i
    obtain ⟨m, rfl⟩ : ∃ m, n = m + 1 := ⟨n - 1, by omega⟩
    obtain rfl : l = len ns i := by omega
    have ht : tab ns (code ns i) (len ns i) = some (i : Int) := tab_code hi _ (len_lt hi)
    rw [hp, rd_sym ht (by omega)]
  | succ d ih =>
    intro l n hl hn
    have h15 := len_le hs i
    obtain ⟨m, rfl⟩ : ∃ m, n = m + 1 := ⟨n - 1, by omega⟩
    have hc : pv s b l = code ns i / 2 ^ (len ns i - l) := by
      rw [← hp, show len ns i - l = d + 1 by omega, ← hl, pv_cut]
    have ht : tab ns (code ns i / 2 ^ (len ns i - l)) l = some (-1) := tab_pre (by omega) _ (len_lt hi)
    rw [← hc] at ht
    rw [rd_on ht (by omega) (by have := ha l (by omega); omega)]
    exact ih (l + 1) m (by omega) (by omega)
theorem read_follow {ns : List Nat} {s : List UInt8} {b i : Nat} (hi : 1 ≤ len ns i) (hs : Short ns) (hp : pv s b (len ns i) = code ns i) (ha : ∀ j, j < len ns i → (b + j) / 8 < s.length) :
    read ns s b = ((i : Int), ((b + len ns i : Nat) : Int), 0) := rd_follow hi hs hp ha (len ns i) 0 17 (by omega) (by omega)
theorem read_whole {ns : List Nat} (hs : Short ns) (hw : share ns = 32768) (x y : UInt8) : ∃ i, i < ns.length ∧ read ns [x, y] 0 = ((i : Int), (len ns i : Int), 0) := by
  obtain ⟨i, h1, h2⟩ := cover hs hw (pv [x, y] 0 15) (pv_lt _ _ 15)
  have h15 := len_le hs i
  have hp : pv [x, y] 0 (len ns i) = code ns i := by
    rw [← h2]
    have := pv_cut [x, y] 0 (len ns i) (15 - len ns i)
    rw [show len ns i + (15 - len ns i) = 15 by omega] at this
    exact this.symm
  refine ⟨i, len_lt h1, ?_⟩
  rw [read_follow h1 hs hp (fun j hj => by simp; omega), Nat.zero_add]
end Go.Proofs.Ytcjcmlnbchmnnaa.Hm
/-! ### HmRef -/
namespace Go.Proofs.Ytcjcmlnbchmnnaa.Hm

/-- how many have a length; the last one that has -/
def mny : List Nat → Nat
  | [] => 0
  | n :: r => (if n = 0 then 0 else 1) + mny r
def lst : Nat → List Nat → Nat
  | x, [] => x
  | x, n :: r => lst (if n = 0 then x else n) r
def big : List Nat → Nat
  | [] => 0
  | n :: r => (if 2 ≤ n then 1 else 0) + big r
theorem mny_snoc (a : List Nat) (n : Nat) : mny (a ++ [n]) = mny a + if n = 0 then 0 else 1 := by
  induction a with
  | nil => simp [mny]
  | cons x a ih => simp only [List.cons_append, mny, ih]; omega
theorem lst_snoc (a : List Nat) (x n : Nat) : lst x (a ++ [n]) = if n = 0 then lst x a else n := by
  induction a generalizing x with
  | nil => rfl
  | cons y a ih => simp only [List.cons_append, lst, ih]
theorem mny_le (a : List Nat) : mny a ≤ a.length := by
  induction a with
  | nil => simp [mny]
  | cons x a ih => simp only [mny, List.length_cons]; split <;> omega
theorem mny_eq (a : List Nat) : mny a = a.count 1 + big a := by
  induction a with
  | nil => rfl
  | cons x a ih =>
    simp only [mny, big, ih, List.count_cons, beq_iff_eq]
    rcases (by omega : x = 0 ∨ x = 1 ∨ 2 ≤ x) with rfl | rfl | h
    · simp
    · simp; omega
    · rw [if_neg (by omega), if_pos h, if_neg (by omega)]; omega
theorem share_bd (a : List Nat) (hs : Short a) : 16384 * a.count 1 + big a ≤ share a ∧ share a ≤ 16384 * a.count 1 + 8192 * big a := by
  induction a with
  | nil => simp [share, big]
  | cons x a ih =>
    have ih' := ih (fun n hn => hs n (by simp [hn]))
    have hx := hs x (by simp)
    simp only [share, big, List.count_cons, beq_iff_eq]
    rcases (by omega : x = 0 ∨ x = 1 ∨ 2 ≤ x) with rfl | rfl | h
    · simp [part]; omega
    · simp [part]; omega
    · have h1 : part x ≤ 8192 := by
        unfold part; rw [if_neg (by omega)]
        exact Nat.pow_le_pow_right (n := 2) (j := 13) (by omega) (by omega)
      have h2 : 1 ≤ part x := by unfold part; rw [if_neg (by omega)]; exact Nat.two_pow_pos _
      rw [if_pos h, if_neg (by omega)]; omega
theorem lst_mem (a : List Nat) (x : Nat) : lst x a = x ∨ lst x a ∈ a := by
  induction a generalizing x with
  | nil => exact .inl rfl
  | cons y a ih =>
    simp only [lst]
    rcases ih (if y = 0 then x else y) with h | h
    · rw [h]; split
      · exact .inl rfl
      · exact .inr (by simp)
    · exact .inr (by simp [h])
theorem lst_pos (a : List Nat) (x : Nat) : (1 ≤ mny a ∨ 1 ≤ x) → 1 ≤ lst x a := by
  induction a generalizing x with
  | nil => intro h; simpa [mny, lst] using h
  | cons y a ih =>
    intro h
    simp only [lst]
    apply ih
    simp only [mny] at h
    by_cases hy : y = 0
    · rw [if_pos hy] at h ⊢; omega
    · rw [if_neg hy]; right; omega
theorem big_mem (a : List Nat) (h : big a = 0) : ∀ n ∈ a, n ≤ 1 := by
  induction a with
  | nil => intro n hn; cases hn
  | cons x a ih =>
    intro n hn
    simp only [big] at h
    rcases List.mem_cons.1 hn with rfl | hn
    · split at h <;> omega
    · exact ih (by omega) n hn
/-- the two ways to ask whether too few codes are there -/
theorem few_iff (ns : List Nat) (hs : Short ns) (h0 : 0 < share ns) : (1 < mny ns ∨ lst 0 ns ≠ 1) ↔ (ns.count 1 ≠ 1 ∨ 16384 < share ns) := by
  have hb := share_bd ns hs
  have hm := mny_eq ns
  have hm1 : 1 ≤ mny ns := by omega
  constructor
  · intro h
    rcases (by omega : ns.count 1 ≠ 1 ∨ ns.count 1 = 1) with hc | hc
    · exact .inl hc
    · right
      rcases h with h | h
      · omega
      · rcases (by omega : big ns = 0 ∨ 1 ≤ big ns) with hz | hz
        · exfalso
          have h1 := lst_pos ns 0 (.inl hm1)
          rcases lst_mem ns 0 with e | e
          · omega
          · have := big_mem ns hz _ e; omega
        · omega
  · intro h
    by_cases hl : lst 0 ns = 1
    · left
      have hc : 1 ≤ ns.count 1 := by
        rcases lst_mem ns 0 with e | e
        · omega
        · rw [hl] at e; exact List.count_pos_iff.2 e
      omega
    · exact .inr hl
theorem mny_share (ns : List Nat) (hs : Short ns) : 0 < mny ns ↔ 0 < share ns := by
  have := share_bd ns hs
  have := mny_eq ns
  omega

/-- the next code, as the reference goes: length l, so many symbols looked at -/
def nxt (ns : List Nat) (l i : Nat) : Nat := fst ns l + (ns.take i).count l
def RC (ns : List Nat) (l i c g : Nat) (first : Bool) : Prop := (first = true ∧ c = 0 ∧ g = 0 ∧ nxt ns l i = 0) ∨ (first = false ∧ 1 ≤ g ∧ g ≤ l ∧ (c + 1) * 2 ^ (l - g) = nxt ns l i)
theorem RC_start (ns : List Nat) : RC ns 1 0 0 0 true := .inl ⟨rfl, rfl, rfl, by simp [nxt, fst, cn]⟩
theorem nxt_skip {ns : List Nat} {l i : Nat} (hi : i < ns.length) (h : len ns i ≠ l) : nxt ns l (i + 1) = nxt ns l i := by
  unfold nxt; rw [count_take_succ ns l hi, if_neg (by rw [← len_get hi]; exact h)]; rfl
theorem nxt_hit {ns : List Nat} {l i : Nat} (hi : i < ns.length) (h : len ns i = l) : nxt ns l (i + 1) = nxt ns l i + 1 := by
  unfold nxt; rw [count_take_succ ns l hi, if_pos (by rw [← len_get hi]; exact h)]; rfl
theorem nxt_next (ns : List Nat) (l : Nat) (h : 1 ≤ l) : nxt ns (l + 1) 0 = 2 * nxt ns l ns.length := by
  unfold nxt; rw [fst, cn, if_neg (by omega)]; simp
theorem nxt_code {ns : List Nat} {l i : Nat} (h1 : 1 ≤ l) (h : len ns i = l) : code ns i = nxt ns l i := by
  unfold nxt; rw [code_pos (by omega), h]
theorem RC_skip {ns : List Nat} {l i c g : Nat} {f : Bool} (h : RC ns l i c g f) (hi : i < ns.length) (hne : len ns i ≠ l) : RC ns l (i + 1) c g f := by
  unfold RC; rw [nxt_skip hi hne]; exact h
theorem RC_hit {ns : List Nat} {l i : Nat} (hi : i < ns.length) (h1 : 1 ≤ l) (h : len ns i = l) : RC ns l (i + 1) (code ns i) l false := by
  refine .inr ⟨rfl, h1, Nat.le_refl _, ?_⟩
  rw [nxt_hit hi h, nxt_code h1 h, Nat.sub_self]; omega
theorem RC_next {ns : List Nat} {l c g : Nat} {f : Bool} (h : RC ns l ns.length c g f) (h1 : 1 ≤ l) : RC ns (l + 1) 0 c g f := by
  unfold RC; rw [nxt_next ns l h1]
  rcases h with ⟨a, b, d, e⟩ | ⟨a, b, d, e⟩
  · exact .inl ⟨a, b, d, by omega⟩
  · refine .inr ⟨a, b, by omega, ?_⟩
    rw [← e, show l + 1 - g = (l - g) + 1 by omega, Nat.pow_succ]
    generalize 2 ^ (l - g) = p
    rw [Nat.mul_comm p 2, Nat.mul_left_comm]
theorem nxt_le (ns : List Nat) (hsr : share ns ≤ 32768) (l i : Nat) (h1 : 1 ≤ l) (h : l ≤ 15) : nxt ns l i ≤ 32768 := by
  have := top_le ns hsr l h1 h
  have h2 : 2 ^ l ≤ 32768 := Nat.pow_le_pow_right (n := 2) (j := 15) (by omega) h
  have h3 : (ns.take i).count l ≤ ns.count l := List.Sublist.count_le _ (List.take_sublist _ _)
  unfold nxt; omega
end Go.Proofs.Ytcjcmlnbchmnnaa.Hm
/-! ### Im -/
namespace Go.Proofs.Ytcjcmlnbchmnnaa.Im

/-- the number of so many bits from a bit on, the first the lowest -/
def num (s : List UInt8) (pos : Nat) : Nat → Nat
  | 0 => 0
  | n + 1 => num s pos n + Hm.bitOf s (pos + n) * 2 ^ n
theorem num_lt (s : List UInt8) (pos n : Nat) : num s pos n < 2 ^ n := by
  induction n with
  | zero => simp [num]
  | succ n ih =>
    have h := Hm.bitOf_le s (pos + n)
    rw [num, Nat.pow_succ]
    rcases (by omega : Hm.bitOf s (pos + n) = 0 ∨ Hm.bitOf s (pos + n) = 1) with e | e <;> rw [e] <;> omega

/-- the least length of a symbol, and how many bits more -/
def lenBase (x : Nat) : Nat := if x = 285 then 258 else if x < 265 then x - 254 else 3 + (4 + (x - 265) % 4) * 2 ^ ((x - 261) / 4)
def lenMore (x : Nat) : Nat := if x = 285 then 0 else if x < 265 then 0 else (x - 261) / 4
/-- the least distance of a symbol, and how many bits more -/
def dstBase (x : Nat) : Nat := if x < 4 then x + 1 else 1 + (2 + x % 2) * 2 ^ (x / 2 - 1)
def dstMore (x : Nat) : Nat := if x < 4 then 0 else x / 2 - 1

/-- a number of bits; the error 0: they are not there -/
def bitsP (s : List UInt8) (pos n : Nat) : Except Int (Nat × Nat) := if pos + n ≤ 8 * s.length then .ok (num s pos n, pos + n) else .error 0
/-- a symbol by the codes of these lengths -/
def symP (ns : List Nat) (s : List UInt8) (pos : Nat) : Except Int (Nat × Nat) :=
  if (Hm.read ns s pos).2.2 = 0 then .ok ((Hm.read ns s pos).1.toNat, (Hm.read ns s pos).2.1.toNat) else .error (if (Hm.read ns s pos).2.2 = 84 then 0 else 91)
def lenP (s : List UInt8) (x pos : Nat) : Except Int (Nat × Nat) := if 285 < x then .error 91 else if pos + lenMore x ≤ 8 * s.length then .ok (lenBase x + num s pos (lenMore x), pos + lenMore x) else .error 0
def dstP (s : List UInt8) (x pos : Nat) : Except Int (Nat × Nat) := if 29 < x then .error 91 else if pos + dstMore x ≤ 8 * s.length then .ok (dstBase x + num s pos (dstMore x), pos + dstMore x) else .error 0
/-- so many bytes more, each from so far back -/
def copyP (out : List UInt8) (d : Nat) : Nat → List UInt8
  | 0 => out
  | n + 1 => copyP out d n ++ [(copyP out d n).getD ((copyP out d n).length - d) 0]
theorem copyP_length (out : List UInt8) (d n : Nat) : (copyP out d n).length = out.length + n := by
  induction n with
  | zero => rfl
  | succ n ih => rw [copyP, List.length_append, ih]; simp; omega

/-- what a reader has come to -/
structure St where
  pos : Nat
  state : Nat
  last : Bool
  left : Nat
  lit : List Nat
  dist : List Nat
  out : List UInt8
def endsP (a : St) : St := if a.last then { a with state := 3, pos := (a.pos + 7) / 8 * 8 } else { a with state := 0 }
/-- an element of a block -/
def elemP (s : List UInt8) (most : Nat) (a : St) : Except Int St :=
  match symP a.lit s a.pos with
  | .error e => .error e
  | .ok (x, p1) =>
    if x < 256 then (if a.out.length < most then .ok { a with pos := p1, out := a.out ++ [UInt8.ofNat x] } else .error 93)
    else if x = 256 then .ok (endsP { a with pos := p1 })
    else match lenP s x p1 with
      | .error e => .error e
      | .ok (n, p2) => match symP a.dist s p2 with
        | .error e => .error e
        | .ok (y, p3) => match dstP s y p3 with
          | .error e => .error e
          | .ok (d, p4) => if a.out.length < d then .error 92 else if most < a.out.length + n then .error 93 else .ok { a with pos := p4, out := copyP a.out d n }
/-- lengths of codes, so many -/
def lensP (ns : List Nat) (s : List UInt8) (all : Nat) : Nat → Nat → List Nat → Except Int (List Nat × Nat)
  | 0, _, _ => .error 0
  | f + 1, pos, l =>
    if l.length < all then
      match symP ns s pos with
      | .error e => .error e
      | .ok (x, p) =>
        if x = 16 then
          (if l = [] then .error 90 else match bitsP s p 2 with
            | .error e => .error e
            | .ok (k, p') => if l.length + (3 + k) ≤ all then lensP ns s all f p' (l ++ List.replicate (3 + k) (l.getLastD 0)) else .error 90)
        else if x = 17 then (match bitsP s p 3 with
            | .error e => .error e
            | .ok (k, p') => if l.length + (3 + k) ≤ all then lensP ns s all f p' (l ++ List.replicate (3 + k) 0) else .error 90)
        else if x = 18 then (match bitsP s p 7 with
            | .error e => .error e
            | .ok (k, p') => if l.length + (11 + k) ≤ all then lensP ns s all f p' (l ++ List.replicate (11 + k) 0) else .error 90)
        else lensP ns s all f p (l ++ [x])
    else .ok (l, pos)
def order : List Nat := [16, 17, 18, 0, 8, 7, 9, 6, 10, 5, 11, 4, 12, 3, 13, 2, 14, 1, 15]
/-- the lengths of the lengths' codes -/
def ownP (s : List UInt8) : List Nat → List Nat → Nat → Except Int (List Nat × Nat)
  | [], own, pos => .ok (own, pos)
  | i :: is, own, pos => match bitsP s pos 3 with
    | .error e => .error e
    | .ok (x, p) => ownP s is (own.set i x) p
def tabsP (s : List UInt8) (a : St) : Except Int St :=
  match bitsP s a.pos 5 with
  | .error e => .error e
  | .ok (hl, p1) => match bitsP s p1 5 with
    | .error e => .error e
    | .ok (hd, p2) => match bitsP s p2 4 with
      | .error e => .error e
      | .ok (hc, p3) => if ¬ (hl ≤ 29 ∧ hd ≤ 29) then .error 90 else match ownP s (order.take (hc + 4)) (List.replicate 19 0) p3 with
        | .error e => .error e
        | .ok (own, p4) => if Hm.err own ≠ 0 then .error 90 else match lensP own s (hl + 257 + hd + 1) (hl + 257 + hd + 2) p4 [] with
          | .error e => .error e
          | .ok (l, p5) => if l.getD 256 0 = 0 then .error 90 else if Hm.err (l.take (hl + 257)) ≠ 0 ∨ Hm.err (l.drop (hl + 257)) ≠ 0 then .error 90
            else .ok { a with pos := p5, state := 2, lit := l.take (hl + 257), dist := l.drop (hl + 257) }
/-- the codes that are always the same -/
def fixLit : List Nat := List.replicate 144 8 ++ List.replicate 112 9 ++ List.replicate 24 7 ++ List.replicate 8 8
def fixDist : List Nat := List.replicate 32 5
/-- a block's beginning -/
def begP (s : List UInt8) (a : St) : Except Int St :=
  match bitsP s a.pos 1 with
  | .error e => .error e
  | .ok (b, p1) => match bitsP s p1 2 with
    | .error e => .error e
    | .ok (k, p2) =>
      if k = 0 then (match bitsP s ((p2 + 7) / 8 * 8) 16 with
        | .error e => .error e
        | .ok (n, p3) => match bitsP s p3 16 with
          | .error e => .error e
          | .ok (m, p4) => if n + m = 65535 then .ok { a with pos := p4, state := 1, last := b == 1, left := n } else .error 90)
      else if k = 1 then .ok { a with pos := p2, state := 2, last := b == 1, lit := fixLit, dist := fixDist }
      else if k = 2 then tabsP s { a with pos := p2, last := b == 1 }
      else .error 90
/-- a step: a block's beginning, a byte or an element -/
def stepP (s : List UInt8) (most : Nat) (a : St) : Except Int St :=
  if a.state = 0 then begP s a
  else if a.state = 1 then
    (if a.left = 0 then .ok (endsP a) else match bitsP s a.pos 8 with
      | .error e => .error e
      | .ok (c, p) => if a.out.length < most then .ok { a with pos := p, left := a.left - 1, out := a.out ++ [UInt8.ofNat c] } else .error 93)
  else elemP s most a
/-- steps, as far as they go: to the end, or to what is wrong (0: no bits any more) -/
inductive Run (s : List UInt8) (most : Nat) : St → St → Int → Prop where
  | done {a : St} : a.state = 3 → Run s most a a 0
  | stop {a : St} {e : Int} : a.state ≠ 3 → stepP s most a = .error e → Run s most a a e
  | step {a a' b : St} {e : Int} : a.state ≠ 3 → stepP s most a = .ok a' → Run s most a' b e → Run s most a b e
theorem Run.det {s : List UInt8} {most : Nat} {a b c : St} {e f : Int} (h : Run s most a b e) (k : Run s most a c f) : b = c ∧ e = f := by
  induction h with
  | done h => cases k with
    | done => exact ⟨rfl, rfl⟩
    | stop h' => exact absurd h h'
    | step h' => exact absurd h h'
  | stop h h2 => cases k with
    | done h' => exact absurd h' h
    | stop _ h2' => rw [h2] at h2'; cases h2'; exact ⟨rfl, rfl⟩
    | step _ h2' => rw [h2] at h2'; cases h2'
  | step h h2 _ ih => cases k with
    | done h' => exact absurd h' h
    | stop _ h2' => rw [h2] at h2'; cases h2'
    | step _ h2' h3 => rw [h2] at h2'; cases h2'; exact ih h3
end Go.Proofs.Ytcjcmlnbchmnnaa.Im
/-! ### ImRead -/
namespace Go.Proofs.Ytcjcmlnbchmnnaa.Im

theorem tab_val {ns : List Nat} {c l : Nat} {x : Int} : ∀ j, Hm.tabTo ns j c l = some x → 0 ≤ x → ∃ i : Nat, x = i ∧ i < j ∧ Hm.len ns i = l ∧ 1 ≤ l
  | 0, h, _ => by simp [Hm.tabTo] at h
  | j + 1, h, hx => by
    rw [Hm.tabTo] at h
    by_cases e : Hm.len ns j = 0
    · rw [if_pos e] at h
      obtain ⟨i, h1, h2, h3⟩ := tab_val j h hx
      exact ⟨i, h1, by omega, h3⟩
    · rw [if_neg e, Hm.ins_at] at h
      by_cases e1 : c = Hm.code ns j ∧ l = Hm.len ns j
      · rw [if_pos e1] at h
        cases h
        exact ⟨j, rfl, by omega, e1.2.symm, by omega⟩
      · rw [if_neg e1] at h
        by_cases e2 : l < Hm.len ns j ∧ c = Hm.code ns j / 2 ^ (Hm.len ns j - l)
        · rw [if_pos e2] at h; cases h; omega
        · rw [if_neg e2] at h
          obtain ⟨i, h1, h2, h3⟩ := tab_val j h hx
          exact ⟨i, h1, by omega, h3⟩
theorem rd_val {ns : List Nat} {s : List UInt8} {x nx : Int} : ∀ n c l bit : Nat, Hm.rd (Hm.tab ns) s n c l bit = (x, nx, 0) → ∃ i k : Nat, x = i ∧ i < ns.length ∧ Hm.len ns i = l + k ∧ 1 ≤ l + k ∧ nx = ((bit + k : Nat) : Int) ∧ (k = 0 ∨ bit + k ≤ 8 * s.length)
  | 0, c, l, bit, h => by simp [Hm.rd] at h
  | n + 1, c, l, bit, h => by
    cases hf : Hm.tab ns c l with
    | none => rw [Hm.rd_none hf] at h; simp at h
    | some y =>
      by_cases hy : 0 ≤ y
      · rw [Hm.rd_sym hf hy] at h
        simp only [Prod.mk.injEq, and_true] at h
        obtain ⟨i, h1, h2, h3, h4⟩ := tab_val ns.length hf hy
        exact ⟨i, 0, by omega, h2, by omega, by omega, by omega, .inl rfl⟩
      · by_cases hb : s.length ≤ bit / 8
        · rw [Hm.rd_end hf hy hb] at h; simp at h
        · rw [Hm.rd_on hf hy hb] at h
          obtain ⟨i, k, h1, h2, h3, h4, h5, h6⟩ := rd_val n _ _ _ h
          exact ⟨i, k + 1, h1, h2, by omega, by omega, by omega, .inr (by omega)⟩
theorem read_val {ns : List Nat} {s : List UInt8} {bit : Nat} {x nx : Int} (h : Hm.read ns s bit = (x, nx, 0)) : ∃ i k : Nat, x = i ∧ i < ns.length ∧ Hm.len ns i = k ∧ 1 ≤ k ∧ nx = ((bit + k : Nat) : Int) ∧ bit + k ≤ 8 * s.length := by
  obtain ⟨i, k, h1, h2, h3, h4, h5, h6⟩ := rd_val 17 0 0 bit h
  exact ⟨i, k, h1, h2, by omega, by omega, h5, by omega⟩
theorem symP_ok {ns : List Nat} {s : List UInt8} {pos x p : Nat} (h : symP ns s pos = .ok (x, p)) : x < ns.length ∧ pos < p ∧ p ≤ 8 * s.length ∧ Hm.read ns s pos = ((x : Int), (p : Int), 0) := by
  unfold symP at h
  rcases hr : Hm.read ns s pos with ⟨a, b, c⟩
  rw [hr] at h
  by_cases hc : c = 0
  · subst hc
    simp only [if_true, Except.ok.injEq, Prod.mk.injEq] at h
    obtain ⟨i, k, h1, h2, h3, h4, h5, h6⟩ := read_val hr
    subst h1 h5
    obtain ⟨rfl, rfl⟩ := h
    exact ⟨by omega, by omega, by omega, rfl⟩
  · simp [hc] at h
theorem symP_err {ns : List Nat} {s : List UInt8} {pos : Nat} {e : Int} (h : symP ns s pos = .error e) : ∃ x nx c, Hm.read ns s pos = (x, nx, c) ∧ c ≠ 0 ∧ e = if c = 84 then 0 else 91 := by
  unfold symP at h
  rcases hr : Hm.read ns s pos with ⟨a, b, c⟩
  rw [hr] at h
  by_cases hc : c = 0
  · simp [hc] at h
  · simp only [hc, if_false, Except.error.injEq] at h
    exact ⟨a, b, c, rfl, hc, h.symm⟩

/-- more bytes behind: the bits ahead are as they were -/
theorem bitOf_app {s t : List UInt8} {bit : Nat} (h : bit / 8 < s.length) : Hm.bitOf (s ++ t) bit = Hm.bitOf s bit := by
  unfold Hm.bitOf
  rw [List.getD_eq_getElem?_getD, List.getD_eq_getElem?_getD, List.getElem?_append_left h]
theorem num_app {s t : List UInt8} {pos : Nat} : ∀ n, pos + n ≤ 8 * s.length → num (s ++ t) pos n = num s pos n
  | 0, _ => rfl
  | n + 1, h => by rw [num, num, num_app n (by omega), bitOf_app (by omega)]
theorem rd_app {f : Nat → Nat → Option Int} {s t : List UInt8} : ∀ n c l bit : Nat, (Hm.rd f s n c l bit).2.2 ≠ 84 → Hm.rd f (s ++ t) n c l bit = Hm.rd f s n c l bit
  | 0, _, _, _, _ => rfl
  | n + 1, c, l, bit, h => by
    cases hf : f c l with
    | none => rw [Hm.rd_none hf, Hm.rd_none hf]
    | some y =>
      by_cases hy : 0 ≤ y
      · rw [Hm.rd_sym hf hy, Hm.rd_sym hf hy]
      · by_cases hb : s.length ≤ bit / 8
        · rw [Hm.rd_end hf hy hb] at h; simp at h
        · rw [Hm.rd_on hf hy hb] at h ⊢
          rw [Hm.rd_on hf hy (by rw [List.length_append]; omega), bitOf_app (by omega), rd_app n _ _ _ h]
/-- an answer that more bytes do not change -/
def Firm {α : Type} (x y : Except Int α) : Prop := x = .error 0 ∨ y = x
theorem bitsP_app (s t : List UInt8) (pos n : Nat) : Firm (bitsP s pos n) (bitsP (s ++ t) pos n) := by
  unfold bitsP Firm
  by_cases h : pos + n ≤ 8 * s.length
  · rw [if_pos h, if_pos (by rw [List.length_append]; omega), num_app n h]; exact .inr rfl
  · rw [if_neg h]; exact .inl rfl
theorem symP_app (ns : List Nat) (s t : List UInt8) (pos : Nat) : Firm (symP ns s pos) (symP ns (s ++ t) pos) := by
  unfold symP Firm
  by_cases h : (Hm.read ns s pos).2.2 = 84
  · left; simp [h]
  · right
    have e : Hm.read ns (s ++ t) pos = Hm.read ns s pos := rd_app 17 0 0 pos h
    rw [e]
theorem lenP_app (s t : List UInt8) (x pos : Nat) : Firm (lenP s x pos) (lenP (s ++ t) x pos) := by
  unfold lenP Firm
  by_cases hx : 285 < x
  · rw [if_pos hx, if_pos hx]; exact .inr rfl
  · rw [if_neg hx, if_neg hx]
    by_cases h : pos + lenMore x ≤ 8 * s.length
    · rw [if_pos h, if_pos (by rw [List.length_append]; omega), num_app _ h]; exact .inr rfl
    · rw [if_neg h]; exact .inl rfl
theorem dstP_app (s t : List UInt8) (x pos : Nat) : Firm (dstP s x pos) (dstP (s ++ t) x pos) := by
  unfold dstP Firm
  by_cases hx : 29 < x
  · rw [if_pos hx, if_pos hx]; exact .inr rfl
  · rw [if_neg hx, if_neg hx]
    by_cases h : pos + dstMore x ≤ 8 * s.length
    · rw [if_pos h, if_pos (by rw [List.length_append]; omega), num_app _ h]; exact .inr rfl
    · rw [if_neg h]; exact .inl rfl
end Go.Proofs.Ytcjcmlnbchmnnaa.Im
/-! ### ImRun -/
namespace Go.Proofs.Ytcjcmlnbchmnnaa.Im

/-! more bytes behind -/
theorem Firm.rfl' {α : Type} (x : Except Int α) : Firm x x := .inr rfl
theorem elemP_app (s t : List UInt8) (most : Nat) (a : St) : Firm (elemP s most a) (elemP (s ++ t) most a) := by
  unfold elemP
  rcases symP_app a.lit s t a.pos with h | h
  · rw [h]; exact .inl rfl
  rw [h]
  rcases symP a.lit s a.pos with e | ⟨x, p1⟩
  · exact .inr rfl
  dsimp only
  by_cases h1 : x < 256
  · rw [if_pos h1, if_pos h1]; exact .inr rfl
  rw [if_neg h1, if_neg h1]
  by_cases h2 : x = 256
  · rw [if_pos h2, if_pos h2]; exact .inr rfl
  rw [if_neg h2, if_neg h2]
  rcases lenP_app s t x p1 with h | h
  · rw [h]; exact .inl rfl
  rw [h]
  rcases lenP s x p1 with e | ⟨n, p2⟩
  · exact .inr rfl
  dsimp only
  rcases symP_app a.dist s t p2 with h | h
  · rw [h]; exact .inl rfl
  rw [h]
  rcases symP a.dist s p2 with e | ⟨y, p3⟩
  · exact .inr rfl
  dsimp only
  rcases dstP_app s t y p3 with h | h
  · rw [h]; exact .inl rfl
  rw [h]
  exact .inr rfl
theorem lensP_app (ns : List Nat) (s t : List UInt8) (all : Nat) : ∀ f pos l, Firm (lensP ns s all f pos l) (lensP ns (s ++ t) all f pos l)
  | 0, _, _ => .inr rfl
  | f + 1, pos, l => by
    unfold lensP
    by_cases h0 : l.length < all
    · rw [if_pos h0, if_pos h0]
      rcases symP_app ns s t pos with h | h
      · rw [h]; exact .inl rfl
      rw [h]
      rcases symP ns s pos with e | ⟨x, p⟩
      · exact .inr rfl
      dsimp only
      have key : ∀ (m b : Nat) (v : Nat), Firm (match bitsP s p b with
            | .error e => (.error e : Except Int (List Nat × Nat))
            | .ok (k, p') => if l.length + (m + k) ≤ all then lensP ns s all f p' (l ++ List.replicate (m + k) v) else .error 90)
          (match bitsP (s ++ t) p b with
            | .error e => (.error e : Except Int (List Nat × Nat))
            | .ok (k, p') => if l.length + (m + k) ≤ all then lensP ns (s ++ t) all f p' (l ++ List.replicate (m + k) v) else .error 90) := by
        intro m b v
        rcases bitsP_app s t p b with h | h
        · rw [h]; exact .inl rfl
        rw [h]
        rcases bitsP s p b with e | ⟨k, p'⟩
        · exact .inr rfl
        dsimp only
        by_cases h3 : l.length + (m + k) ≤ all
        · rw [if_pos h3, if_pos h3]; exact lensP_app ns s t all f _ _
        · rw [if_neg h3, if_neg h3]; exact .inr rfl
      by_cases h1 : x = 16
      · rw [if_pos h1, if_pos h1]
        by_cases h2 : l = []
        · rw [if_pos h2, if_pos h2]; exact .inr rfl
        · rw [if_neg h2, if_neg h2]; exact key 3 2 _
      rw [if_neg h1, if_neg h1]
      by_cases h1 : x = 17
      · rw [if_pos h1, if_pos h1]; exact key 3 3 0
      rw [if_neg h1, if_neg h1]
      by_cases h1 : x = 18
      · rw [if_pos h1, if_pos h1]; exact key 11 7 0
      rw [if_neg h1, if_neg h1]
      exact lensP_app ns s t all f _ _
    · rw [if_neg h0, if_neg h0]; exact .inr rfl
theorem ownP_app (s t : List UInt8) : ∀ (is own : List Nat) (pos : Nat), Firm (ownP s is own pos) (ownP (s ++ t) is own pos)
  | [], _, _ => .inr rfl
  | i :: is, own, pos => by
    unfold ownP
    rcases bitsP_app s t pos 3 with h | h
    · rw [h]; exact .inl rfl
    rw [h]
    rcases bitsP s pos 3 with e | ⟨x, p⟩
    · exact .inr rfl
    exact ownP_app s t is _ p
theorem tabsP_app (s t : List UInt8) (a : St) : Firm (tabsP s a) (tabsP (s ++ t) a) := by
  unfold tabsP
  rcases bitsP_app s t a.pos 5 with h | h
  · rw [h]; exact .inl rfl
  rw [h]
  rcases bitsP s a.pos 5 with e | ⟨hl, p1⟩
  · exact .inr rfl
  dsimp only
  rcases bitsP_app s t p1 5 with h | h
  · rw [h]; exact .inl rfl
  rw [h]
  rcases bitsP s p1 5 with e | ⟨hd, p2⟩
  · exact .inr rfl
  dsimp only
  rcases bitsP_app s t p2 4 with h | h
  · rw [h]; exact .inl rfl
  rw [h]
  rcases bitsP s p2 4 with e | ⟨hc, p3⟩
  · exact .inr rfl
  dsimp only
  by_cases h1 : ¬ (hl ≤ 29 ∧ hd ≤ 29)
  · rw [if_pos h1, if_pos h1]; exact .inr rfl
  rw [if_neg h1, if_neg h1]
  rcases ownP_app s t (order.take (hc + 4)) (List.replicate 19 0) p3 with h | h
  · rw [h]; exact .inl rfl
  rw [h]
  rcases ownP s (order.take (hc + 4)) (List.replicate 19 0) p3 with e | ⟨own, p4⟩
  · exact .inr rfl
  dsimp only
  by_cases h2 : Hm.err own ≠ 0
  · rw [if_pos h2, if_pos h2]; exact .inr rfl
  rw [if_neg h2, if_neg h2]
  rcases lensP_app own s t (hl + 257 + hd + 1) (hl + 257 + hd + 2) p4 [] with h | h
  · rw [h]; exact .inl rfl
  rw [h]
  exact .inr rfl
theorem begP_app (s t : List UInt8) (a : St) : Firm (begP s a) (begP (s ++ t) a) := by
  unfold begP
  rcases bitsP_app s t a.pos 1 with h | h
  · rw [h]; exact .inl rfl
  rw [h]
  rcases bitsP s a.pos 1 with e | ⟨b, p1⟩
  · exact .inr rfl
  dsimp only
  rcases bitsP_app s t p1 2 with h | h
  · rw [h]; exact .inl rfl
  rw [h]
  rcases bitsP s p1 2 with e | ⟨k, p2⟩
  · exact .inr rfl
  dsimp only
  by_cases h0 : k = 0
  · rw [if_pos h0, if_pos h0]
    rcases bitsP_app s t ((p2 + 7) / 8 * 8) 16 with h | h
    · rw [h]; exact .inl rfl
    rw [h]
    rcases bitsP s ((p2 + 7) / 8 * 8) 16 with e | ⟨n, p3⟩
    · exact .inr rfl
    dsimp only
    rcases bitsP_app s t p3 16 with h | h
    · rw [h]; exact .inl rfl
    rw [h]
    exact .inr rfl
  rw [if_neg h0, if_neg h0]
  by_cases h1 : k = 1
  · rw [if_pos h1, if_pos h1]; exact .inr rfl
  rw [if_neg h1, if_neg h1]
  by_cases h2 : k = 2
  · rw [if_pos h2, if_pos h2]; exact tabsP_app s t _
  rw [if_neg h2, if_neg h2]; exact .inr rfl
theorem stepP_app (s t : List UInt8) (most : Nat) (a : St) : Firm (stepP s most a) (stepP (s ++ t) most a) := by
  unfold stepP
  by_cases h0 : a.state = 0
  · rw [if_pos h0, if_pos h0]; exact begP_app s t a
  rw [if_neg h0, if_neg h0]
  by_cases h1 : a.state = 1
  · rw [if_pos h1, if_pos h1]
    by_cases h2 : a.left = 0
    · rw [if_pos h2, if_pos h2]; exact .inr rfl
    rw [if_neg h2, if_neg h2]
    rcases bitsP_app s t a.pos 8 with h | h
    · rw [h]; exact .inl rfl
    rw [h]; exact .inr rfl
  rw [if_neg h1, if_neg h1]; exact elemP_app s t most a
theorem stepP_app_ok {s : List UInt8} (t : List UInt8) {most : Nat} {a b : St} (h : stepP s most a = .ok b) : stepP (s ++ t) most a = .ok b := by
  rcases stepP_app s t most a with k | k
  · rw [h] at k; cases k
  · rw [k, h]
theorem stepP_app_err {s : List UInt8} (t : List UInt8) {most : Nat} {a : St} {e : Int} (h : stepP s most a = .error e) (he : e ≠ 0) : stepP (s ++ t) most a = .error e := by
  rcases stepP_app s t most a with k | k
  · rw [h] at k; cases k; exact absurd rfl he
  · rw [k, h]
/-- a run goes on from where it stood for want of bits -/
theorem Run.then {s : List UInt8} {most : Nat} {a b c : St} {e f : Int} (t : List UInt8) (h : Run s most a b e) (he : e = 0) (k : Run (s ++ t) most b c f) : Run (s ++ t) most a c f := by
  induction h with
  | done _ => exact k
  | stop _ _ => exact k
  | step h1 h2 _ ih => exact .step h1 (stepP_app_ok t h2) (ih he k)
/-- what is wrong stays wrong -/
theorem Run.wrong {s : List UInt8} {most : Nat} {a b : St} {e : Int} (t : List UInt8) (h : Run s most a b e) (he : e ≠ 0) : Run (s ++ t) most a b e := by
  induction h with
  | done _ => exact absurd rfl he
  | stop h1 h2 => exact .stop h1 (stepP_app_err t h2 he)
  | step h1 h2 _ ih => exact .step h1 (stepP_app_ok t h2) (ih he)
theorem Run.ended {s : List UInt8} {most : Nat} {a b : St} (t : List UInt8) (h : Run s most a b 0) (hb : b.state = 3) : Run (s ++ t) most a b 0 := h.then t rfl (.done hb)
theorem Run.err_or {s : List UInt8} {most : Nat} {a b : St} {e : Int} (h : Run s most a b e) (hb : b.state = 3) : e = 0 := by
  induction h with
  | done _ => rfl
  | stop h1 _ => exact absurd hb h1
  | step _ _ _ ih => exact ih hb

/-! bytes ahead -/
def up2 (k : Nat) (x : Nat × Nat) : Nat × Nat := (x.1, 8 * k + x.2)
def St.up (k : Nat) (a : St) : St := { a with pos := 8 * k + a.pos }
def lift {α β : Type} (f : α → β) : Except Int α → Except Int β
  | .ok x => .ok (f x)
  | .error e => .error e
theorem bitOf_pre (u s : List UInt8) (bit : Nat) : Hm.bitOf (u ++ s) (8 * u.length + bit) = Hm.bitOf s bit := by
  unfold Hm.bitOf
  have e1 : (8 * u.length + bit) / 8 = u.length + bit / 8 := by omega
  have e2 : (8 * u.length + bit) % 8 = bit % 8 := by omega
  rw [e1, e2, List.getD_eq_getElem?_getD, List.getD_eq_getElem?_getD, List.getElem?_append_right (by omega)]
  congr 5
  omega
theorem num_pre (u s : List UInt8) (pos : Nat) : ∀ n, num (u ++ s) (8 * u.length + pos) n = num s pos n
  | 0 => rfl
  | n + 1 => by rw [num, num, num_pre u s pos n, Nat.add_assoc, bitOf_pre]
theorem rd_pre (f : Nat → Nat → Option Int) (u s : List UInt8) : ∀ n c l bit : Nat, Hm.rd f (u ++ s) n c l (8 * u.length + bit) =
    ((Hm.rd f s n c l bit).1, (if (Hm.rd f s n c l bit).2.2 = 0 then 8 * (u.length : Int) else 0) + (Hm.rd f s n c l bit).2.1, (Hm.rd f s n c l bit).2.2)
  | 0, c, l, bit => by simp [Hm.rd]
  | n + 1, c, l, bit => by
    cases hf : f c l with
    | none => rw [Hm.rd_none hf, Hm.rd_none hf]; rfl
    | some y =>
      by_cases hy : 0 ≤ y
      · rw [Hm.rd_sym hf hy, Hm.rd_sym hf hy]; simp
      · have e1 : (8 * u.length + bit) / 8 = u.length + bit / 8 := by omega
        by_cases hb : s.length ≤ bit / 8
        · rw [Hm.rd_end hf hy hb, Hm.rd_end hf hy (by rw [List.length_append, e1]; omega)]; rfl
        · rw [Hm.rd_on hf hy hb, Hm.rd_on hf hy (by rw [List.length_append, e1]; omega), bitOf_pre, Nat.add_assoc, rd_pre f u s n _ _ _]
theorem bitsP_pre (u s : List UInt8) (pos n : Nat) : bitsP (u ++ s) (8 * u.length + pos) n = lift (up2 u.length) (bitsP s pos n) := by
  unfold bitsP
  by_cases h : pos + n ≤ 8 * s.length
  · rw [if_pos h, if_pos (by rw [List.length_append]; omega), num_pre]; simp only [lift, up2, Nat.add_assoc]
  · rw [if_neg h, if_neg (by rw [List.length_append]; omega)]; rfl
theorem symP_pre (ns : List Nat) (u s : List UInt8) (pos : Nat) : symP ns (u ++ s) (8 * u.length + pos) = lift (up2 u.length) (symP ns s pos) := by
  cases h : symP ns s pos with
  | ok v =>
    obtain ⟨x, p⟩ := v
    obtain ⟨_, _, _, h4⟩ := symP_ok h
    have e : Hm.read ns (u ++ s) (8 * u.length + pos) = ((x : Int), 8 * (u.length : Int) + (p : Int), 0) := by
      unfold Hm.read at h4 ⊢
      rw [rd_pre, h4]; rfl
    unfold symP
    rw [e]
    simp only [if_true, lift, up2]
    rw [show (8 * (u.length : Int) + (p : Int)).toNat = 8 * u.length + p by omega]; rfl
  | error e =>
    obtain ⟨x, nx, c, h1, h2, rfl⟩ := symP_err h
    have e : Hm.read ns (u ++ s) (8 * u.length + pos) = (x, nx, c) := by
      unfold Hm.read at h1 ⊢
      rw [rd_pre, h1, if_neg h2]; simp
    unfold symP
    rw [e]
    simp only [if_neg h2, lift]
theorem lenP_pre (u s : List UInt8) (x pos : Nat) : lenP (u ++ s) x (8 * u.length + pos) = lift (up2 u.length) (lenP s x pos) := by
  unfold lenP
  by_cases hx : 285 < x
  · rw [if_pos hx, if_pos hx]; rfl
  rw [if_neg hx, if_neg hx]
  by_cases h : pos + lenMore x ≤ 8 * s.length
  · rw [if_pos h, if_pos (by rw [List.length_append]; omega), num_pre]; simp only [lift, up2, Nat.add_assoc]
  · rw [if_neg h, if_neg (by rw [List.length_append]; omega)]; rfl
theorem dstP_pre (u s : List UInt8) (x pos : Nat) : dstP (u ++ s) x (8 * u.length + pos) = lift (up2 u.length) (dstP s x pos) := by
  unfold dstP
  by_cases hx : 29 < x
  · rw [if_pos hx, if_pos hx]; rfl
  rw [if_neg hx, if_neg hx]
  by_cases h : pos + dstMore x ≤ 8 * s.length
  · rw [if_pos h, if_pos (by rw [List.length_append]; omega), num_pre]; simp only [lift, up2, Nat.add_assoc]
  · rw [if_neg h, if_neg (by rw [List.length_append]; omega)]; rfl
theorem align_pre (k p : Nat) : (8 * k + p + 7) / 8 * 8 = 8 * k + (p + 7) / 8 * 8 := by omega
theorem endsP_pre (k : Nat) (a : St) : endsP (a.up k) = (endsP a).up k := by
  obtain ⟨pos, state, last, left, lit, dist, out⟩ := a
  cases last with
  | true => simp only [endsP, St.up, if_true]; rw [align_pre]
  | false => rfl
theorem elemP_pre (u s : List UInt8) (most : Nat) (a : St) : elemP (u ++ s) most (a.up u.length) = lift (St.up u.length) (elemP s most a) := by
  unfold elemP
  rw [show (a.up u.length).lit = a.lit from rfl, show (a.up u.length).dist = a.dist from rfl, show (a.up u.length).out = a.out from rfl, show (a.up u.length).pos = 8 * u.length + a.pos from rfl, symP_pre]
  rcases symP a.lit s a.pos with e | ⟨x, p1⟩
  · rfl
  simp only [lift, up2]
  by_cases h1 : x < 256
  · rw [if_pos h1, if_pos h1]
    by_cases h2 : a.out.length < most
    · rw [if_pos h2, if_pos h2]; rfl
    · rw [if_neg h2, if_neg h2]
  rw [if_neg h1, if_neg h1]
  by_cases h2 : x = 256
  · rw [if_pos h2, if_pos h2]
    exact congrArg Except.ok (endsP_pre u.length { a with pos := p1 })
  rw [if_neg h2, if_neg h2, lenP_pre]
  rcases lenP s x p1 with e | ⟨n, p2⟩
  · rfl
  simp only [lift, up2]
  rw [symP_pre]
  rcases symP a.dist s p2 with e | ⟨y, p3⟩
  · rfl
  simp only [lift, up2]
  rw [dstP_pre]
  rcases dstP s y p3 with e | ⟨d, p4⟩
  · rfl
  simp only [lift, up2]
  by_cases h3 : a.out.length < d
  · rw [if_pos h3, if_pos h3]
  rw [if_neg h3, if_neg h3]
  by_cases h4 : most < a.out.length + n
  · rw [if_pos h4, if_pos h4]
  rw [if_neg h4, if_neg h4]; rfl
def upL (k : Nat) (x : List Nat × Nat) : List Nat × Nat := (x.1, 8 * k + x.2)
theorem lensP_pre (ns : List Nat) (u s : List UInt8) (all : Nat) : ∀ f pos l, lensP ns (u ++ s) all f (8 * u.length + pos) l = lift (upL u.length) (lensP ns s all f pos l)
  | 0, _, _ => rfl
  | f + 1, pos, l => by
    unfold lensP
    by_cases h0 : l.length < all
    · rw [if_pos h0, if_pos h0, symP_pre]
      rcases symP ns s pos with e | ⟨x, p⟩
      · rfl
      simp only [lift, up2]
      have key : ∀ (m b : Nat) (v : Nat), (match bitsP (u ++ s) (8 * u.length + p) b with
            | .error e => (.error e : Except Int (List Nat × Nat))
            | .ok (k, p') => if l.length + (m + k) ≤ all then lensP ns (u ++ s) all f p' (l ++ List.replicate (m + k) v) else .error 90) = lift (upL u.length)
          (match bitsP s p b with
            | .error e => (.error e : Except Int (List Nat × Nat))
            | .ok (k, p') => if l.length + (m + k) ≤ all then lensP ns s all f p' (l ++ List.replicate (m + k) v) else .error 90) := by
        intro m b v
        rw [bitsP_pre]
        rcases bitsP s p b with e | ⟨k, p'⟩
        · rfl
        simp only [lift, up2]
        by_cases h3 : l.length + (m + k) ≤ all
        · rw [if_pos h3, if_pos h3]; exact lensP_pre ns u s all f _ _
        · rw [if_neg h3, if_neg h3]
      by_cases h1 : x = 16
      · rw [if_pos h1, if_pos h1]
        by_cases h2 : l = []
        · rw [if_pos h2, if_pos h2]
        · rw [if_neg h2, if_neg h2]; exact key 3 2 _
      rw [if_neg h1, if_neg h1]
      by_cases h1 : x = 17
      · rw [if_pos h1, if_pos h1]; exact key 3 3 0
      rw [if_neg h1, if_neg h1]
      by_cases h1 : x = 18
      · rw [if_pos h1, if_pos h1]; exact key 11 7 0
      rw [if_neg h1, if_neg h1]
      exact lensP_pre ns u s all f _ _
    · rw [if_neg h0, if_neg h0]; rfl
theorem ownP_pre (u s : List UInt8) : ∀ (is own : List Nat) (pos : Nat), ownP (u ++ s) is own (8 * u.length + pos) = lift (upL u.length) (ownP s is own pos)
  | [], _, _ => rfl
  | i :: is, own, pos => by
    unfold ownP
    rw [bitsP_pre]
    rcases bitsP s pos 3 with e | ⟨x, p⟩
    · rfl
    exact ownP_pre u s is _ p
theorem tabsP_pre (u s : List UInt8) (a : St) : tabsP (u ++ s) (a.up u.length) = lift (St.up u.length) (tabsP s a) := by
  unfold tabsP
  rw [show (a.up u.length).pos = 8 * u.length + a.pos from rfl, bitsP_pre]
  rcases bitsP s a.pos 5 with e | ⟨hl, p1⟩
  · rfl
  simp only [lift, up2]
  rw [bitsP_pre]
  rcases bitsP s p1 5 with e | ⟨hd, p2⟩
  · rfl
  simp only [lift, up2]
  rw [bitsP_pre]
  rcases bitsP s p2 4 with e | ⟨hc, p3⟩
  · rfl
  simp only [lift, up2]
  by_cases h1 : ¬ (hl ≤ 29 ∧ hd ≤ 29)
  · rw [if_pos h1, if_pos h1]
  rw [if_neg h1, if_neg h1, ownP_pre]
  rcases ownP s (order.take (hc + 4)) (List.replicate 19 0) p3 with e | ⟨own, p4⟩
  · rfl
  simp only [lift, upL]
  by_cases h2 : Hm.err own ≠ 0
  · rw [if_pos h2, if_pos h2]
  rw [if_neg h2, if_neg h2, lensP_pre]
  rcases lensP own s (hl + 257 + hd + 1) (hl + 257 + hd + 2) p4 [] with e | ⟨l, p5⟩
  · rfl
  simp only [lift, upL]
  by_cases h3 : l.getD 256 0 = 0
  · rw [if_pos h3, if_pos h3]
  rw [if_neg h3, if_neg h3]
  by_cases h4 : Hm.err (l.take (hl + 257)) ≠ 0 ∨ Hm.err (l.drop (hl + 257)) ≠ 0
  · rw [if_pos h4, if_pos h4]
  rw [if_neg h4, if_neg h4]; rfl
theorem begP_pre (u s : List UInt8) (a : St) : begP (u ++ s) (a.up u.length) = lift (St.up u.length) (begP s a) := by
  unfold begP
  rw [show (a.up u.length).pos = 8 * u.length + a.pos from rfl, bitsP_pre]
  rcases bitsP s a.pos 1 with e | ⟨b, p1⟩
  · rfl
  simp only [lift, up2]
  rw [bitsP_pre]
  rcases bitsP s p1 2 with e | ⟨k, p2⟩
  · rfl
  simp only [lift, up2]
  by_cases h0 : k = 0
  · rw [if_pos h0, if_pos h0, align_pre, bitsP_pre]
    rcases bitsP s ((p2 + 7) / 8 * 8) 16 with e | ⟨n, p3⟩
    · rfl
    simp only [lift, up2]
    rw [bitsP_pre]
    rcases bitsP s p3 16 with e | ⟨m, p4⟩
    · rfl
    simp only [lift, up2]
    by_cases h1 : n + m = 65535
    · rw [if_pos h1, if_pos h1]; rfl
    · rw [if_neg h1, if_neg h1]
  rw [if_neg h0, if_neg h0]
  by_cases h1 : k = 1
  · rw [if_pos h1, if_pos h1]; rfl
  rw [if_neg h1, if_neg h1]
  by_cases h2 : k = 2
  · rw [if_pos h2, if_pos h2]
    exact tabsP_pre u s { a with pos := p2, last := b == 1 }
  rw [if_neg h2, if_neg h2]
theorem stepP_pre (u s : List UInt8) (most : Nat) (a : St) : stepP (u ++ s) most (a.up u.length) = lift (St.up u.length) (stepP s most a) := by
  unfold stepP
  rw [show (a.up u.length).state = a.state from rfl, show (a.up u.length).left = a.left from rfl, show (a.up u.length).out = a.out from rfl, show (a.up u.length).pos = 8 * u.length + a.pos from rfl]
  by_cases h0 : a.state = 0
  · rw [if_pos h0, if_pos h0]; exact begP_pre u s a
  rw [if_neg h0, if_neg h0]
  by_cases h1 : a.state = 1
  · rw [if_pos h1, if_pos h1]
    by_cases h2 : a.left = 0
    · rw [if_pos h2, if_pos h2, endsP_pre]; rfl
    rw [if_neg h2, if_neg h2, bitsP_pre]
    rcases bitsP s a.pos 8 with e | ⟨c, p⟩
    · rfl
    simp only [lift, up2]
    by_cases h3 : a.out.length < most
    · rw [if_pos h3, if_pos h3]; rfl
    · rw [if_neg h3, if_neg h3]
  rw [if_neg h1, if_neg h1]; exact elemP_pre u s most a
theorem Run.pre {s : List UInt8} {most : Nat} {a b : St} {e : Int} (u : List UInt8) (h : Run s most a b e) : Run (u ++ s) most (a.up u.length) (b.up u.length) e := by
  induction h with
  | done h => exact .done h
  | stop h1 h2 => exact .stop h1 (by rw [stepP_pre, h2]; rfl)
  | step h1 h2 _ ih => exact .step h1 (by rw [stepP_pre, h2]; rfl) ih
end Go.Proofs.Ytcjcmlnbchmnnaa.Im
/-! ### ImOk -/
namespace Go.Proofs.Ytcjcmlnbchmnnaa
namespace Im
set_option maxRecDepth 100000 in
theorem dst_bounds : ∀ y, y < 30 → 1 ≤ dstBase y ∧ dstBase y + 2 ^ dstMore y ≤ 32769 := by decide
set_option maxRecDepth 100000 in
theorem len_bounds : ∀ x, x < 286 → 257 ≤ x → lenBase x + 2 ^ lenMore x ≤ 259 := by decide
theorem dstP_ok {s : List UInt8} {y p d p' : Nat} (h : dstP s y p = .ok (d, p')) : 1 ≤ d ∧ d ≤ 32768 ∧ p ≤ p' ∧ p' ≤ 8 * s.length := by
  unfold dstP at h
  by_cases h1 : 29 < y
  · rw [if_pos h1] at h; cases h
  rw [if_neg h1] at h
  by_cases h2 : p + dstMore y ≤ 8 * s.length
  · rw [if_pos h2] at h
    cases h
    have hb := dst_bounds y (by omega)
    have hn := num_lt s p (dstMore y)
    omega
  · rw [if_neg h2] at h; cases h
theorem lenP_ok {s : List UInt8} {x p n p' : Nat} (h : lenP s x p = .ok (n, p')) (hx : 257 ≤ x) : n ≤ 258 ∧ p ≤ p' ∧ p' ≤ 8 * s.length := by
  unfold lenP at h
  by_cases h1 : 285 < x
  · rw [if_pos h1] at h; cases h
  rw [if_neg h1] at h
  by_cases h2 : p + lenMore x ≤ 8 * s.length
  · rw [if_pos h2] at h
    cases h
    have hb := len_bounds x (by omega) hx
    have hn := num_lt s p (lenMore x)
    omega
  · rw [if_neg h2] at h; cases h
theorem bitsP_ok {s : List UInt8} {p n v p' : Nat} (h : bitsP s p n = .ok (v, p')) : v < 2 ^ n ∧ p' = p + n ∧ p' ≤ 8 * s.length := by
  unfold bitsP at h
  by_cases h2 : p + n ≤ 8 * s.length
  · rw [if_pos h2] at h
    cases h
    exact ⟨num_lt s p n, rfl, h2⟩
  · rw [if_neg h2] at h; cases h
end Im
end Go.Proofs.Ytcjcmlnbchmnnaa
