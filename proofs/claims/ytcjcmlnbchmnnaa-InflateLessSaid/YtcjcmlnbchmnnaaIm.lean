/- Plain mathematics of layer 9: bits read as numbers, the first the lowest (no program in sight). -/
import Derived.Test.YtcjcmlnbchmnnaaHmRead
namespace Go.Proofs.Ytcjcmlnbchmnnaa.Im

/-- the number of so many bits from a bit on, the first the lowest -/
def num (s : List UInt8) (pos : Nat) : Nat → Nat
  | 0 => 0
  | n + 1 => num s pos n + Hm.bitOf s (pos + n) * 2 ^ n
theorem num_lt (s : List UInt8) (pos n : Nat) : num s pos n < 2 ^ n := by
  induction n with
  | zero => simp [num]
  | succ n ih =>
    have h := Hm.bitOf_le s (pos + n)
    rw [num, Nat.pow_succ]
    rcases (by omega : Hm.bitOf s (pos + n) = 0 ∨ Hm.bitOf s (pos + n) = 1) with e | e <;> rw [e] <;> omega

/-- the least length of a symbol, and how many bits more -/
def lenBase (x : Nat) : Nat := if x = 285 then 258 else if x < 265 then x - 254 else 3 + (4 + (x - 265) % 4) * 2 ^ ((x - 261) / 4)
def lenMore (x : Nat) : Nat := if x = 285 then 0 else if x < 265 then 0 else (x - 261) / 4
/-- the least distance of a symbol, and how many bits more -/
def dstBase (x : Nat) : Nat := if x < 4 then x + 1 else 1 + (2 + x % 2) * 2 ^ (x / 2 - 1)
def dstMore (x : Nat) : Nat := if x < 4 then 0 else x / 2 - 1

/-- a number of bits; the error 0: they are not there -/
def bitsP (s : List UInt8) (pos n : Nat) : Except Int (Nat × Nat) := if pos + n ≤ 8 * s.length then .ok (num s pos n, pos + n) else .error 0
/-- a symbol by the codes of these lengths -/
def symP (ns : List Nat) (s : List UInt8) (pos : Nat) : Except Int (Nat × Nat) :=
  if (Hm.read ns s pos).2.2 = 0 then .ok ((Hm.read ns s pos).1.toNat, (Hm.read ns s pos).2.1.toNat) else .error (if (Hm.read ns s pos).2.2 = 84 then 0 else 91)
def lenP (s : List UInt8) (x pos : Nat) : Except Int (Nat × Nat) := if 285 < x then .error 91 else if pos + lenMore x ≤ 8 * s.length then .ok (lenBase x + num s pos (lenMore x), pos + lenMore x) else .error 0
def dstP (s : List UInt8) (x pos : Nat) : Except Int (Nat × Nat) := if 29 < x then .error 91 else if pos + dstMore x ≤ 8 * s.length then .ok (dstBase x + num s pos (dstMore x), pos + dstMore x) else .error 0
/-- so many bytes more, each from so far back -/
def copyP (out : List UInt8) (d : Nat) : Nat → List UInt8
  | 0 => out
  | n + 1 => copyP out d n ++ [(copyP out d n).getD ((copyP out d n).length - d) 0]
theorem copyP_length (out : List UInt8) (d n : Nat) : (copyP out d n).length = out.length + n := by
  induction n with
  | zero => rfl
  | succ n ih => rw [copyP, List.length_append, ih]; simp; omega

/-- what a reader has come to -/
structure St where
  pos : Nat
  state : Nat
  last : Bool
  left : Nat
  lit : List Nat
  dist : List Nat
  out : List UInt8
def endsP (a : St) : St := if a.last then { a with state := 3, pos := (a.pos + 7) / 8 * 8 } else { a with state := 0 }
/-- an element of a block -/
def elemP (s : List UInt8) (most : Nat) (a : St) : Except Int St :=
  match symP a.lit s a.pos with
  | .error e => .error e
  | .ok (x, p1) =>
    if x < 256 then (if a.out.length < most then .ok { a with pos := p1, out := a.out ++ [UInt8.ofNat x] } else .error 93)
    else if x = 256 then .ok (endsP { a with pos := p1 })
    else match lenP s x p1 with
      | .error e => .error e
      | .ok (n, p2) => match symP a.dist s p2 with
        | .error e => .error e
        | .ok (y, p3) => match dstP s y p3 with
          | .error e => .error e
          | .ok (d, p4) => if a.out.length < d then .error 92 else if most < a.out.length + n then .error 93 else .ok { a with pos := p4, out := copyP a.out d n }
/-- lengths of codes, so many -/
def lensP (ns : List Nat) (s : List UInt8) (all : Nat) : Nat → Nat → List Nat → Except Int (List Nat × Nat)
  | 0, _, _ => .error 0
  | f + 1, pos, l =>
    if l.length < all then
      match symP ns s pos with
      | .error e => .error e
      | .ok (x, p) =>
        if x = 16 then
          (if l = [] then .error 90 else match bitsP s p 2 with
            | .error e => .error e
            | .ok (k, p') => if l.length + (3 + k) ≤ all then lensP ns s all f p' (l ++ List.replicate (3 + k) (l.getLastD 0)) else .error 90)
        else if x = 17 then (match bitsP s p 3 with
            | .error e => .error e
            | .ok (k, p') => if l.length + (3 + k) ≤ all then lensP ns s all f p' (l ++ List.replicate (3 + k) 0) else .error 90)
        else if x = 18 then (match bitsP s p 7 with
            | .error e => .error e
            | .ok (k, p') => if l.length + (11 + k) ≤ all then lensP ns s all f p' (l ++ List.replicate (11 + k) 0) else .error 90)
        else lensP ns s all f p (l ++ [x])
    else .ok (l, pos)
def order : List Nat := [16, 17, 18, 0, 8, 7, 9, 6, 10, 5, 11, 4, 12, 3, 13, 2, 14, 1, 15]
/-- the lengths of the lengths' codes -/
def ownP (s : List UInt8) : List Nat → List Nat → Nat → Except Int (List Nat × Nat)
  | [], own, pos => .ok (own, pos)
  | i :: is, own, pos => match bitsP s pos 3 with
    | .error e => .error e
    | .ok (x, p) => ownP s is (own.set i x) p
def tabsP (s : List UInt8) (a : St) : Except Int St :=
  match bitsP s a.pos 5 with
  | .error e => .error e
  | .ok (hl, p1) => match bitsP s p1 5 with
    | .error e => .error e
    | .ok (hd, p2) => match bitsP s p2 4 with
      | .error e => .error e
      | .ok (hc, p3) => if ¬ (hl ≤ 29 ∧ hd ≤ 29) then .error 90 else match ownP s (order.take (hc + 4)) (List.replicate 19 0) p3 with
        | .error e => .error e
        | .ok (own, p4) => if Hm.err own ≠ 0 then .error 90 else match lensP own s (hl + 257 + hd + 1) (hl + 257 + hd + 2) p4 [] with
          | .error e => .error e
          | .ok (l, p5) => if l.getD 256 0 = 0 then .error 90 else if Hm.err (l.take (hl + 257)) ≠ 0 ∨ Hm.err (l.drop (hl + 257)) ≠ 0 then .error 90
            else .ok { a with pos := p5, state := 2, lit := l.take (hl + 257), dist := l.drop (hl + 257) }
/-- the codes that are always the same -/
def fixLit : List Nat := List.replicate 144 8 ++ List.replicate 112 9 ++ List.replicate 24 7 ++ List.replicate 8 8
def fixDist : List Nat := List.replicate 32 5
/-- a block's beginning -/
def begP (s : List UInt8) (a : St) : Except Int St :=
  match bitsP s a.pos 1 with
  | .error e => .error e
  | .ok (b, p1) => match bitsP s p1 2 with
    | .error e => .error e
    | .ok (k, p2) =>
      if k = 0 then (match bitsP s ((p2 + 7) / 8 * 8) 16 with
        | .error e => .error e
        | .ok (n, p3) => match bitsP s p3 16 with
          | .error e => .error e
          | .ok (m, p4) => if n + m = 65535 then .ok { a with pos := p4, state := 1, last := b == 1, left := n } else .error 90)
      else if k = 1 then .ok { a with pos := p2, state := 2, last := b == 1, lit := fixLit, dist := fixDist }
      else if k = 2 then tabsP s { a with pos := p2, last := b == 1 }
      else .error 90
/-- a step: a block's beginning, a byte or an element -/
def stepP (s : List UInt8) (most : Nat) (a : St) : Except Int St :=
  if a.state = 0 then begP s a
  else if a.state = 1 then
    (if a.left = 0 then .ok (endsP a) else match bitsP s a.pos 8 with
      | .error e => .error e
      | .ok (c, p) => if a.out.length < most then .ok { a with pos := p, left := a.left - 1, out := a.out ++ [UInt8.ofNat c] } else .error 93)
  else elemP s most a
/-- steps, as far as they go: to the end, or to what is wrong (0: no bits any more) -/
inductive Run (s : List UInt8) (most : Nat) : St → St → Int → Prop where
  | done {a : St} : a.state = 3 → Run s most a a 0
  | stop {a : St} {e : Int} : a.state ≠ 3 → stepP s most a = .error e → Run s most a a e
  | step {a a' b : St} {e : Int} : a.state ≠ 3 → stepP s most a = .ok a' → Run s most a' b e → Run s most a b e
theorem Run.det {s : List UInt8} {most : Nat} {a b c : St} {e f : Int} (h : Run s most a b e) (k : Run s most a c f) : b = c ∧ e = f := by
  induction h with
  | done h => cases k with
    | done => exact ⟨rfl, rfl⟩
    | stop h' => exact absurd h h'
    | step h' => exact absurd h h'
  | stop h h2 => cases k with
    | done h' => exact absurd h' h
    | stop _ h2' => rw [h2] at h2'; cases h2'; exact ⟨rfl, rfl⟩
    | step _ h2' => rw [h2] at h2'; cases h2'
  | step h h2 _ ih => cases k with
    | done h' => exact absurd h' h
    | stop _ h2' => rw [h2] at h2'; cases h2'
    | step _ h2' h3 => rw [h2] at h2'; cases h2'; exact ih h3
end Go.Proofs.Ytcjcmlnbchmnnaa.Im
