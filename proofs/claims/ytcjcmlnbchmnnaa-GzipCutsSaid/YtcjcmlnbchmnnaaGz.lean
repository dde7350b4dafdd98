/- Plain mathematics of layer 10: what bytes say as a gzip member, its head stage by stage, its tail (no program in sight). -/
import Derived.Test.YtcjcmlnbchmnnaaPl
namespace Go.Proofs.Ytcjcmlnbchmnnaa.Gz

/-- what a head comes to: not there whole, wrong, so many bytes -/
inductive HR where
  | more : HR
  | bad (e : Int) : HR
  | ok (k : Nat) : HR
/-- where the first nought stands -/
def nought : List UInt8 → Option Nat
  | [] => none
  | c :: l => if c = 0 then some 0 else (nought l).map (· + 1)
def textP (s : List UInt8) (p : Nat) : Option Nat := (nought (s.drop p)).map fun i => p + i + 1
def nAt (n : Nat) (s : List UInt8) (p : Nat) : Nat := Cm.getN ((s.drop p).take n)
def sumP (fl : Nat) (s : List UInt8) (p : Nat) : HR :=
  if fl / 2 % 2 = 1 then (if s.length < p + 2 then .more else if nAt 2 s p = Cm.crc 0 (s.take p) % 65536 then .ok (p + 2) else .bad 101) else .ok p
def comP (fl : Nat) (s : List UInt8) (p : Nat) : HR :=
  if fl / 16 % 2 = 1 then (match textP s p with
    | none => .more
    | some q => sumP fl s q) else sumP fl s p
def namP (fl : Nat) (s : List UInt8) (p : Nat) : HR :=
  if fl / 8 % 2 = 1 then (match textP s p with
    | none => .more
    | some q => comP fl s q) else comP fl s p
def extP (fl : Nat) (s : List UInt8) (p : Nat) : HR :=
  if fl / 4 % 2 = 1 then (if s.length < p + 2 then .more else if s.length < p + 2 + nAt 2 s p then .more else namP fl s (p + 2 + nAt 2 s p)) else namP fl s p
/-- the first three bytes and the flags are not as they must be -/
def Odd (s : List UInt8) : Prop :=
  (1 ≤ s.length ∧ s.getD 0 0 ≠ 31) ∨ (2 ≤ s.length ∧ s.getD 1 0 ≠ 139) ∨ (3 ≤ s.length ∧ s.getD 2 0 ≠ 8) ∨ (4 ≤ s.length ∧ 32 ≤ (s.getD 3 0).toNat)
instance (s : List UInt8) : Decidable (Odd s) := by unfold Odd; infer_instance
def magP (s : List UInt8) : HR := if Odd s then .bad 100 else if s.length < 10 then .more else extP (s.getD 3 0).toNat s 10
def stg (k fl : Nat) (s : List UInt8) (p : Nat) : HR := match k with
  | 0 => magP s
  | 1 => extP fl s p
  | 2 => namP fl s p
  | 3 => comP fl s p
  | _ => sumP fl s p

/-! more bytes behind -/
def Fits (x y : HR) : Prop := x = .more ∨ y = x
theorem Fits.rfl' (x : HR) : Fits x x := .inr rfl
theorem nought_app (t : List UInt8) : ∀ (s : List UInt8) (i : Nat), nought s = some i → nought (s ++ t) = some i
  | [], _, h => by cases h
  | c :: l, i, h => by
    unfold nought at h
    rw [List.cons_append]
    unfold nought
    by_cases h0 : c = 0
    · rw [if_pos h0] at h ⊢; exact h
    · rw [if_neg h0] at h ⊢
      cases hn : nought l with
      | none => rw [hn] at h; cases h
      | some j => rw [hn] at h; rw [nought_app t l j hn]; exact h
theorem nought_lt : ∀ (s : List UInt8) (i : Nat), nought s = some i → i < s.length
  | [], _, h => by cases h
  | c :: l, i, h => by
    unfold nought at h
    by_cases h0 : c = 0
    · rw [if_pos h0] at h; cases h; simp
    · rw [if_neg h0] at h
      cases hn : nought l with
      | none => rw [hn] at h; cases h
      | some j => rw [hn] at h; cases h; have := nought_lt l j hn; simp; omega
theorem textP_app {s : List UInt8} {p q : Nat} (t : List UInt8) (h : textP s p = some q) (hp : p ≤ s.length) : textP (s ++ t) p = some q := by
  unfold textP at *
  rw [List.drop_append_of_le_length hp]
  cases hn : nought (s.drop p) with
  | none => rw [hn] at h; cases h
  | some j => rw [hn] at h; rw [nought_app t _ j hn]; exact h
theorem textP_le {s : List UInt8} {p q : Nat} (h : textP s p = some q) (hp : p ≤ s.length) : p < q ∧ q ≤ s.length := by
  unfold textP at h
  cases hn : nought (s.drop p) with
  | none => rw [hn] at h; cases h
  | some j =>
    rw [hn] at h
    have e : p + j + 1 = q := by injection h
    have := nought_lt _ j hn
    rw [List.length_drop] at this
    omega
theorem nAt_app {n : Nat} {s : List UInt8} {p : Nat} (t : List UInt8) (h : p + n ≤ s.length) : nAt n (s ++ t) p = nAt n s p := by
  unfold nAt
  rw [List.drop_append_of_le_length (by omega), List.take_append_of_le_length (by rw [List.length_drop]; omega)]
theorem sumP_app (fl : Nat) (s t : List UInt8) (p : Nat) (hp : p ≤ s.length) : Fits (sumP fl s p) (sumP fl (s ++ t) p) := by
  unfold sumP
  by_cases h0 : fl / 2 % 2 = 1
  · have hl : (s ++ t).length = s.length + t.length := List.length_append
    rw [if_pos h0, if_pos h0]
    by_cases h1 : s.length < p + 2
    · rw [if_pos h1]; exact .inl rfl
    · have h1' : ¬ (s ++ t).length < p + 2 := by omega
      rw [if_neg h1, if_neg h1', nAt_app t (by omega), List.take_append_of_le_length hp]; exact .inr rfl
  · rw [if_neg h0, if_neg h0]; exact .inr rfl
theorem comP_app (fl : Nat) (s t : List UInt8) (p : Nat) (hp : p ≤ s.length) : Fits (comP fl s p) (comP fl (s ++ t) p) := by
  unfold comP
  by_cases h0 : fl / 16 % 2 = 1
  · rw [if_pos h0, if_pos h0]
    cases h1 : textP s p with
    | none => exact .inl rfl
    | some q => rw [textP_app t h1 hp]; exact sumP_app fl s t q (textP_le h1 hp).2
  · rw [if_neg h0, if_neg h0]; exact sumP_app fl s t p hp
theorem namP_app (fl : Nat) (s t : List UInt8) (p : Nat) (hp : p ≤ s.length) : Fits (namP fl s p) (namP fl (s ++ t) p) := by
  unfold namP
  by_cases h0 : fl / 8 % 2 = 1
  · rw [if_pos h0, if_pos h0]
    cases h1 : textP s p with
    | none => exact .inl rfl
    | some q => rw [textP_app t h1 hp]; exact comP_app fl s t q (textP_le h1 hp).2
  · rw [if_neg h0, if_neg h0]; exact comP_app fl s t p hp
theorem extP_app (fl : Nat) (s t : List UInt8) (p : Nat) (hp : p ≤ s.length) : Fits (extP fl s p) (extP fl (s ++ t) p) := by
  unfold extP
  by_cases h0 : fl / 4 % 2 = 1
  · have hl : (s ++ t).length = s.length + t.length := List.length_append
    rw [if_pos h0, if_pos h0]
    by_cases h1 : s.length < p + 2
    · rw [if_pos h1]; exact .inl rfl
    · have h1' : ¬ (s ++ t).length < p + 2 := by omega
      rw [if_neg h1, if_neg h1', nAt_app t (by omega)]
      by_cases h2 : s.length < p + 2 + nAt 2 s p
      · rw [if_pos h2]; exact .inl rfl
      · have h2' : ¬ (s ++ t).length < p + 2 + nAt 2 s p := by omega
        rw [if_neg h2, if_neg h2']; exact namP_app fl s t _ (by omega)
  · rw [if_neg h0, if_neg h0]; exact namP_app fl s t p hp
theorem getD_app {s : List UInt8} {i : Nat} (t : List UInt8) (h : i < s.length) : (s ++ t).getD i 0 = s.getD i 0 := by
  rw [List.getD_eq_getElem?_getD, List.getD_eq_getElem?_getD, List.getElem?_append_left h]
theorem odd_app {s : List UInt8} (t : List UInt8) (h : Odd s) : Odd (s ++ t) := by
  unfold Odd at *
  rw [List.length_append]
  rcases h with ⟨h, q⟩ | ⟨h, q⟩ | ⟨h, q⟩ | ⟨h, q⟩
  · exact .inl ⟨by omega, by rw [getD_app t (by omega)]; exact q⟩
  · exact .inr (.inl ⟨by omega, by rw [getD_app t (by omega)]; exact q⟩)
  · exact .inr (.inr (.inl ⟨by omega, by rw [getD_app t (by omega)]; exact q⟩))
  · exact .inr (.inr (.inr ⟨by omega, by rw [getD_app t (by omega)]; exact q⟩))
theorem even_app {s : List UInt8} (t : List UInt8) (h : ¬ Odd s) (hs : 10 ≤ s.length) : ¬ Odd (s ++ t) := by
  intro q
  unfold Odd at *
  rw [getD_app t (by omega), getD_app t (by omega), getD_app t (by omega), getD_app t (by omega)] at q
  rcases q with ⟨_, q⟩ | ⟨_, q⟩ | ⟨_, q⟩ | ⟨_, q⟩
  · exact h (.inl ⟨by omega, q⟩)
  · exact h (.inr (.inl ⟨by omega, q⟩))
  · exact h (.inr (.inr (.inl ⟨by omega, q⟩)))
  · exact h (.inr (.inr (.inr ⟨by omega, q⟩)))
theorem magP_app (s t : List UInt8) : Fits (magP s) (magP (s ++ t)) := by
  unfold magP
  by_cases h0 : Odd s
  · rw [if_pos h0, if_pos (odd_app t h0)]; exact .inr rfl
  · rw [if_neg h0]
    by_cases h1 : s.length < 10
    · rw [if_pos h1]; exact .inl rfl
    · have hl : ¬ (s ++ t).length < 10 := by rw [List.length_append]; omega
      rw [if_neg h1, if_neg (even_app t h0 (by omega)), if_neg hl, getD_app t (by omega)]
      exact extP_app _ s t 10 (by omega)
theorem stg_app (k fl : Nat) (s t : List UInt8) (p : Nat) (hp : p ≤ s.length) : Fits (stg k fl s p) (stg k fl (s ++ t) p) := by
  unfold stg
  split
  · exact magP_app s t
  · exact extP_app fl s t p hp
  · exact namP_app fl s t p hp
  · exact comP_app fl s t p hp
  · exact sumP_app fl s t p hp
/-! what heads are of so many bytes -/
theorem sumP_le {fl : Nat} {s : List UInt8} {p q : Nat} (h : sumP fl s p = .ok q) (hp : p ≤ s.length) : p ≤ q ∧ q ≤ s.length := by
  unfold sumP at h
  split at h
  · split at h
    · cases h
    · split at h
      · cases h; omega
      · cases h
  · cases h; omega
theorem comP_le {fl : Nat} {s : List UInt8} {p q : Nat} (h : comP fl s p = .ok q) (hp : p ≤ s.length) : p ≤ q ∧ q ≤ s.length := by
  unfold comP at h
  split at h
  · split at h
    · cases h
    · rename_i k hk
      have h1 := textP_le hk hp
      have h2 := sumP_le h h1.2
      omega
  · exact sumP_le h hp
theorem namP_le {fl : Nat} {s : List UInt8} {p q : Nat} (h : namP fl s p = .ok q) (hp : p ≤ s.length) : p ≤ q ∧ q ≤ s.length := by
  unfold namP at h
  split at h
  · split at h
    · cases h
    · rename_i k hk
      have h1 := textP_le hk hp
      have h2 := comP_le h h1.2
      omega
  · exact comP_le h hp
theorem extP_le {fl : Nat} {s : List UInt8} {p q : Nat} (h : extP fl s p = .ok q) (hp : p ≤ s.length) : p ≤ q ∧ q ≤ s.length := by
  unfold extP at h
  split at h
  · split at h
    · cases h
    · split at h
      · cases h
      · have := namP_le h (by omega); omega
  · exact namP_le h hp
theorem magP_le {s : List UInt8} {q : Nat} (h : magP s = .ok q) : 10 ≤ q ∧ q ≤ s.length := by
  unfold magP at h
  split at h
  · cases h
  · split at h
    · cases h
    · have := extP_le h (by omega); omega
theorem sumP_bad {fl : Nat} {s : List UInt8} {p : Nat} {e : Int} (h : sumP fl s p = .bad e) : e = 101 := by
  unfold sumP at h
  split at h
  · split at h
    · cases h
    · split at h
      · cases h
      · cases h; rfl
  · cases h
theorem comP_bad {fl : Nat} {s : List UInt8} {p : Nat} {e : Int} (h : comP fl s p = .bad e) : e = 101 := by
  unfold comP at h
  split at h
  · split at h
    · cases h
    · exact sumP_bad h
  · exact sumP_bad h
theorem namP_bad {fl : Nat} {s : List UInt8} {p : Nat} {e : Int} (h : namP fl s p = .bad e) : e = 101 := by
  unfold namP at h
  split at h
  · split at h
    · cases h
    · exact comP_bad h
  · exact comP_bad h
theorem extP_bad {fl : Nat} {s : List UInt8} {p : Nat} {e : Int} (h : extP fl s p = .bad e) : e = 101 := by
  unfold extP at h
  split at h
  · split at h
    · cases h
    · split at h
      · cases h
      · exact namP_bad h
  · exact namP_bad h
theorem magP_bad {s : List UInt8} {e : Int} (h : magP s = .bad e) : e = 100 ∨ e = 101 := by
  unfold magP at h
  split at h
  · cases h; exact .inl rfl
  · split at h
    · cases h
    · exact .inr (extP_bad h)

/-! the tail -/
/-- of a tail from q on, of bytes told: an error, and how many bytes there are if it has ended -/
def tailP (s : List UInt8) (q : Nat) (out : List UInt8) : Int × Option Nat :=
  if s.length < q + 4 then (0, none) else if nAt 4 s q ≠ Cm.crc 0 out then (101, none)
  else if s.length < q + 8 then (0, none) else if nAt 4 s (q + 4) ≠ out.length % 4294967296 then (101, none) else (0, some (q + 8))
theorem tailP_app {s : List UInt8} {q : Nat} {out : List UInt8} (t : List UInt8) (h : tailP s q out ≠ (0, none)) : tailP (s ++ t) q out = tailP s q out := by
  unfold tailP at *
  by_cases h1 : s.length < q + 4
  · rw [if_pos h1] at h; exact absurd rfl h
  · have hl : (s ++ t).length = s.length + t.length := List.length_append
    have h1' : ¬ (s ++ t).length < q + 4 := by omega
    rw [if_neg h1] at h ⊢
    rw [if_neg h1', nAt_app t (by omega)]
    by_cases h2 : nAt 4 s q ≠ Cm.crc 0 out
    · rw [if_pos h2, if_pos h2]
    · rw [if_neg h2] at h ⊢
      rw [if_neg h2]
      by_cases h3 : s.length < q + 8
      · rw [if_pos h3] at h; exact absurd rfl h
      · have h3' : ¬ (s ++ t).length < q + 8 := by omega
        rw [if_neg h3, if_neg h3', nAt_app t (by omega)]
theorem tailP_err {s : List UInt8} {q : Nat} {out : List UInt8} {e : Int} {f : Option Nat} (h : tailP s q out = (e, f)) : e = 0 ∨ e = 101 ∧ f = none := by
  unfold tailP at h
  split at h
  · cases h; exact .inl rfl
  · split at h
    · cases h; exact .inr ⟨rfl, rfl⟩
    · split at h
      · cases h; exact .inl rfl
      · split at h
        · cases h; exact .inr ⟨rfl, rfl⟩
        · cases h; exact .inl rfl
theorem tailP_fin {s : List UInt8} {q : Nat} {out : List UInt8} {e : Int} {k : Nat} (h : tailP s q out = (e, some k)) : e = 0 ∧ k = q + 8 ∧ k ≤ s.length := by
  unfold tailP at h
  split at h
  · cases h
  · split at h
    · cases h
    · split at h
      · cases h
      · split at h
        · cases h
        · cases h; exact ⟨rfl, rfl, by omega⟩

end Go.Proofs.Ytcjcmlnbchmnnaa.Gz
