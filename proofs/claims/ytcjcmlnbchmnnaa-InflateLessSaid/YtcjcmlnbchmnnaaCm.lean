/- Plain mathematics of layer 2: numbers as bytes, the sum of bytes (no program in sight). -/
namespace Go.Proofs.Ytcjcmlnbchmnnaa.Cm

theorem take_snoc (s : ByteArray) (k : Nat) (h : k < s.size) : s.data.toList.take (k + 1) = s.data.toList.take k ++ [s[k]] := by
  rw [List.take_succ_eq_append_getElem (by simpa using h)]; rfl
theorem take_all (s : ByteArray) (k : Nat) (h : s.size ≤ k) : s.data.toList.take k = s.data.toList := by
  rw [List.take_of_length_le]; simpa using h
theorem len_list (s : ByteArray) : s.data.toList.length = s.size := by rw [Array.length_toList]; rfl
theorem byte_lt (c : UInt8) : c.toNat < 256 := c.toNat_lt

/-! numbers -/
def getN : List UInt8 → Nat
  | [] => 0
  | c :: r => c.toNat + 256 * getN r
theorem getN_lt (l : List UInt8) : getN l < 256 ^ l.length := by
  induction l with
  | nil => simp [getN]
  | cons c r ih => have := byte_lt c; simp only [getN, List.length_cons, Nat.pow_succ]; omega
theorem getN_append (a b : List UInt8) : getN (a ++ b) = getN a + 256 ^ a.length * getN b := by
  induction a with
  | nil => simp [getN]
  | cons c r ih => simp only [List.cons_append, getN, ih, List.length_cons, Nat.pow_succ, Nat.mul_add]; rw [Nat.mul_comm (256 ^ r.length) 256, Nat.mul_assoc]; omega
theorem getN_snoc (a : List UInt8) (c : UInt8) : getN (a ++ [c]) = getN a + 256 ^ a.length * c.toNat := by
  rw [getN_append]; simp [getN]
theorem drop_all (s : ByteArray) (k : Nat) (h : s.size ≤ k) : s.data.toList.drop k = [] := by
  apply List.drop_of_length_le; simpa using h
theorem drop_cons (s : ByteArray) (k : Nat) (h : k < s.size) : s.data.toList.drop k = s[k] :: s.data.toList.drop (k + 1) := by
  rw [List.drop_eq_getElem_cons (by simpa using h)]; rfl
theorem getN_drop (s : ByteArray) (k : Nat) (h : k < s.size) : getN (s.data.toList.drop k) = s[k].toNat + 256 * getN (s.data.toList.drop (k + 1)) := by
  rw [drop_cons s k h]; rfl
theorem getN_le_of (l : List UInt8) (h : l.length ≤ 7) : getN l < 72057594037927936 := by
  have h1 := getN_lt l
  have h2 : 256 ^ l.length ≤ 256 ^ 7 := Nat.pow_le_pow_right (by omega) h
  have h3 : (256 : Nat) ^ 7 = 72057594037927936 := by decide
  omega
theorem getN_max (s : ByteArray) (h : s.size ≤ 7) : getN s.data.toList < 72057594037927936 := getN_le_of _ (by rw [len_list]; exact h)
theorem getN_drop_max (s : ByteArray) (k : Nat) (h : s.size ≤ 7) : getN (s.data.toList.drop k) < 72057594037927936 := getN_le_of _ (by rw [List.length_drop, len_list]; omega)
def putL : Nat → Nat → List UInt8
  | _, 0 => []
  | n, k + 1 => UInt8.ofNat n :: putL (n / 256) k
theorem putL_length (n k : Nat) : (putL n k).length = k := by
  induction k generalizing n with
  | zero => rfl
  | succ k ih => simp [putL, ih]
theorem getN_putL (n k : Nat) : getN (putL n k) = n % 256 ^ k := by
  induction k generalizing n with
  | zero => simp [putL, getN, Nat.mod_one]
  | succ k ih =>
    simp only [putL, getN, ih, UInt8.toNat_ofNat']
    rw [Nat.pow_succ (m := k), Nat.mul_comm (256 ^ k) 256, Nat.mod_mul]
theorem putL_getN (l : List UInt8) : putL (getN l) l.length = l := by
  induction l with
  | nil => rfl
  | cons c r ih =>
    have hc := byte_lt c
    have h1 : (c.toNat + 256 * getN r) / 256 = getN r := by omega
    have h2 : UInt8.ofNat (c.toNat + 256 * getN r) = c := by
      apply UInt8.toNat_inj.1; rw [UInt8.toNat_ofNat']; omega
    simp only [getN, List.length_cons, putL, h1, h2, ih]
theorem putL_snoc (n k : Nat) : putL n (k + 1) = putL n k ++ [UInt8.ofNat (n / 256 ^ k)] := by
  induction k generalizing n with
  | zero => simp [putL]
  | succ k ih =>
    rw [putL, ih]; simp only [putL, List.cons_append]; rw [Nat.div_div_eq_div_mul, Nat.pow_succ, Nat.mul_comm]

/-! sums -/
def poly : Nat := 3988292384
def step (r : Nat) : Nat := if r % 2 = 1 then (r / 2) ^^^ poly else r / 2
def steps : Nat → Nat → Nat
  | 0, r => r
  | k + 1, r => step (steps k r)
def byteStep (r : Nat) (c : UInt8) : Nat := steps 8 (r ^^^ c.toNat)
def run (r : Nat) (l : List UInt8) : Nat := l.foldl byteStep r
def inv (r : Nat) : Nat := 4294967295 - r
def crc (sum : Nat) (l : List UInt8) : Nat := inv (run (inv sum) l)

theorem step_lt (r : Nat) (h : r < 4294967296) : step r < 4294967296 := by
  unfold step poly; split
  · exact Nat.xor_lt_two_pow (n := 32) (by omega) (by omega)
  · omega
theorem steps_lt (k r : Nat) (h : r < 4294967296) : steps k r < 4294967296 := by
  induction k with
  | zero => exact h
  | succ k ih => exact step_lt _ ih
theorem xor_byte_lt (r : Nat) (c : UInt8) (h : r < 4294967296) : r ^^^ c.toNat < 4294967296 :=
  Nat.xor_lt_two_pow (n := 32) (by omega) (by have := byte_lt c; omega)
theorem byteStep_lt (r : Nat) (c : UInt8) (h : r < 4294967296) : byteStep r c < 4294967296 := steps_lt _ _ (xor_byte_lt r c h)
theorem run_lt (l : List UInt8) (r : Nat) (h : r < 4294967296) : run r l < 4294967296 := by
  induction l generalizing r with
  | nil => exact h
  | cons c l ih => exact ih _ (byteStep_lt _ _ h)
theorem run_append (r : Nat) (a b : List UInt8) : run r (a ++ b) = run (run r a) b := List.foldl_append ..
theorem run_snoc (r : Nat) (a : List UInt8) (c : UInt8) : run r (a ++ [c]) = byteStep (run r a) c := by rw [run_append]; rfl
theorem inv_lt (r : Nat) : inv r < 4294967296 := by unfold inv; omega
theorem inv_inv (r : Nat) (h : r < 4294967296) : inv (inv r) = r := by unfold inv; omega
theorem crc_lt (s : Nat) (l : List UInt8) : crc s l < 4294967296 := inv_lt _
theorem crc_append (s : Nat) (a b : List UInt8) : crc (crc s a) b = crc s (a ++ b) := by
  unfold crc; rw [inv_inv _ (run_lt _ _ (inv_lt _)), run_append]
theorem crc_nil (s : Nat) (h : s < 4294967296) : crc s [] = s := inv_inv s h

/-! the sum is linear -/
theorem inv_xor (r : Nat) (h : r < 4294967296) : inv r = 4294967295 ^^^ r := by
  apply Nat.eq_of_testBit_eq
  intro i
  have e : inv r = 2 ^ 32 - (r + 1) := by unfold inv; omega
  rw [e, Nat.testBit_two_pow_sub_succ h, Nat.testBit_xor]
  have : (4294967295 : Nat).testBit i = decide (i < 32) := by
    rw [show (4294967295 : Nat) = 2 ^ 32 - 1 by rfl, Nat.testBit_two_pow_sub_one]
  rw [this]
  by_cases hi : i < 32
  · simp [hi]
  · have : r.testBit i = false := Nat.testBit_lt_two_pow (Nat.lt_of_lt_of_le h (Nat.pow_le_pow_right (n := 2) (by omega) (by omega : 32 ≤ i)))
    simp [hi, this]
theorem step_xor (a b : Nat) : step (a ^^^ b) = step a ^^^ step b := by
  have h2 : ∀ x y : Nat, x < 2 → y < 2 → x ^^^ y = (x + y) % 2 := by
    intro x y hx hy
    rcases (by omega : x = 0 ∨ x = 1) with rfl | rfl <;> rcases (by omega : y = 0 ∨ y = 1) with rfl | rfl <;> rfl
  have hm : (a ^^^ b) % 2 = (a % 2 + b % 2) % 2 := by
    have h := @Nat.xor_mod_two_pow a b 1
    rw [Nat.pow_one] at h
    rw [h, h2 (a % 2) (b % 2) (by omega) (by omega)]
  have hd : (a ^^^ b) / 2 = a / 2 ^^^ b / 2 := by rw [Nat.xor_div_two]
  unfold step
  rw [hd]
  rcases Nat.mod_two_eq_zero_or_one a with ha | ha <;> rcases Nat.mod_two_eq_zero_or_one b with hb | hb <;> simp only [hm, ha, hb] <;> simp
  · rw [Nat.xor_assoc]
  · rw [Nat.xor_assoc, Nat.xor_comm (b / 2) poly, ← Nat.xor_assoc]
  · rw [Nat.xor_assoc, Nat.xor_comm (b / 2) poly, ← Nat.xor_assoc poly, Nat.xor_self, Nat.zero_xor]
theorem steps_xor (k a b : Nat) : steps k (a ^^^ b) = steps k a ^^^ steps k b := by
  induction k with
  | zero => rfl
  | succ k ih => simp only [steps, ih, step_xor]
theorem step_inj {a b : Nat} (ha : a < 4294967296) (hb : b < 4294967296) (h : step a = step b) : a = b := by
  have key : ∀ r, r < 4294967296 → (step r).testBit 31 = decide (r % 2 = 1) := by
    intro r hr
    unfold step
    have h0 : (r / 2).testBit 31 = false := Nat.testBit_lt_two_pow (by omega)
    split
    · rename_i e; rw [Nat.testBit_xor, h0]; simp [e]; decide
    · rename_i e; rw [h0]; simp [e]
  have k1 := key a ha
  have k2 := key b hb
  rw [h, k2] at k1
  have e : a % 2 = b % 2 := by
    have := k1
    simp only [decide_eq_decide] at this
    omega
  have d : a / 2 = b / 2 := by
    unfold step at h
    by_cases p : a % 2 = 1
    · rw [if_pos p, if_pos (by omega)] at h
      have := congrArg (· ^^^ poly) h
      simpa [Nat.xor_assoc] using this
    · rw [if_neg p, if_neg (by omega)] at h; exact h
  omega
theorem steps_inj (k : Nat) {a b : Nat} (ha : a < 4294967296) (hb : b < 4294967296) (h : steps k a = steps k b) : a = b := by
  induction k with
  | zero => exact h
  | succ k ih => exact ih (step_inj (steps_lt _ _ ha) (steps_lt _ _ hb) h)
theorem step_zero : step 0 = 0 := by decide
theorem steps_zero (k : Nat) : steps k 0 = 0 := by
  induction k with
  | zero => rfl
  | succ k ih => simp only [steps, ih, step_zero]

/-! digits -/
def digit (n : Nat) : UInt8 := if n < 10 then UInt8.ofNat (48 + n) else UInt8.ofNat (87 + n)
def hex : List UInt8 → List UInt8
  | [] => []
  | c :: r => digit (c.toNat / 16) :: digit (c.toNat % 16) :: hex r
theorem hex_append (a b : List UInt8) : hex (a ++ b) = hex a ++ hex b := by
  induction a with
  | nil => rfl
  | cons c a ih => simp [hex, ih]
theorem hex_snoc (a : List UInt8) (c : UInt8) : hex (a ++ [c]) = hex a ++ [digit (c.toNat / 16), digit (c.toNat % 16)] := by rw [hex_append]; rfl
theorem hex_length (a : List UInt8) : (hex a).length = 2 * a.length := by
  induction a with
  | nil => rfl
  | cons c a ih => simp [hex, ih]; omega
def undig (c : Nat) : Option Nat := if 48 ≤ c ∧ c ≤ 57 then some (c - 48) else if 97 ≤ c ∧ c ≤ 102 then some (c - 87) else none
theorem undig_lt {c n : Nat} (h : undig c = some n) : n < 16 := by
  unfold undig at h; split at h
  · simp at h; omega
  · split at h
    · simp at h; omega
    · simp at h
def unhex : List UInt8 → Option (List UInt8)
  | [] => some []
  | [_] => none
  | a :: b :: r => match undig a.toNat, undig b.toNat with
    | some x, some y => (unhex r).map (UInt8.ofNat (16 * x + y) :: ·)
    | _, _ => none
theorem unhex_cons (a b : UInt8) (r : List UInt8) {x y : Nat} (ha : undig a.toNat = some x) (hb : undig b.toNat = some y) : unhex (a :: b :: r) = (unhex r).map (UInt8.ofNat (16 * x + y) :: ·) := by
  simp only [unhex, ha, hb]
theorem unhex_none (a b : UInt8) (r : List UInt8) (h : undig a.toNat = none ∨ undig b.toNat = none) : unhex (a :: b :: r) = none := by
  rcases h with h | h
  · simp only [unhex, h]
  · simp only [unhex, h]; split <;> simp_all
theorem undig_digit (n : Nat) (h : n < 16) : undig (digit n).toNat = some n := by
  have all : ∀ n : Fin 16, undig (digit n.val).toNat = some n.val := by decide
  exact all ⟨n, h⟩
theorem digit_undig (c : UInt8) (n : Nat) (h : undig c.toNat = some n) : digit n = c := by
  have all : ∀ k : Fin 256, ∀ m, undig k.val = some m → digit m = UInt8.ofNat k.val := by
    intro k m
    unfold undig digit
    have := k.isLt
    split
    · intro e; simp at e; subst e; rw [if_pos (by omega)]; congr 1; omega
    · split
      · intro e; simp at e; subst e; rw [if_neg (by omega)]; congr 1; omega
      · intro e; simp at e
  have := all ⟨c.toNat, byte_lt c⟩ n h
  simpa using this
theorem unhex_hex (l : List UInt8) : unhex (hex l) = some l := by
  induction l with
  | nil => rfl
  | cons c l ih =>
    have hc := byte_lt c
    rw [hex, unhex_cons _ _ _ (undig_digit (c.toNat / 16) (by omega)) (undig_digit (c.toNat % 16) (by omega)), ih]
    have : UInt8.ofNat (16 * (c.toNat / 16) + c.toNat % 16) = c := by apply UInt8.toNat_inj.1; rw [UInt8.toNat_ofNat']; omega
    simp [this]
theorem hex_unhex (l : List UInt8) : ∀ t, unhex l = some t → hex t = l := by
  induction l using unhex.induct with
  | case1 => intro t h; simp [unhex] at h; subst h; rfl
  | case2 => intro t h; simp [unhex] at h
  | case3 a b r x y hb ha ih =>
    intro t h
    rw [unhex_cons _ _ _ ha hb] at h
    cases hr : unhex r with
    | none => rw [hr] at h; simp at h
    | some u =>
      rw [hr, Option.map_some, Option.some.injEq] at h
      subst h
      have h1 := undig_lt ha
      have h2 := undig_lt hb
      have e : (UInt8.ofNat (16 * x + y)).toNat = 16 * x + y := by rw [UInt8.toNat_ofNat']; omega
      rw [hex, e, show (16 * x + y) / 16 = x by omega, show (16 * x + y) % 16 = y by omega, digit_undig a x ha, digit_undig b y hb, ih u hr]
  | case4 a b r h => intro t e; rw [unhex_none] at e; simp at e; cases ha : undig a.toNat with
    | none => exact .inl rfl
    | some x => cases hb : undig b.toNat with
      | none => exact .inr rfl
      | some y => exact (h x y ha hb).elim
theorem unhex_odd (l : List UInt8) : l.length % 2 = 1 → unhex l = none := by
  induction l using unhex.induct with
  | case1 => intro h; simp at h
  | case2 => intro _; rfl
  | case3 a b r x y hb ha ih => intro h; rw [unhex_cons _ _ _ ha hb, ih (by simp at h; omega)]; rfl
  | case4 a b r h => intro _; rw [unhex_none]; cases ha : undig a.toNat with
    | none => exact .inl rfl
    | some x => cases hb : undig b.toNat with
      | none => exact .inr rfl
      | some y => exact (h x y ha hb).elim
end Go.Proofs.Ytcjcmlnbchmnnaa.Cm
