/- Plain mathematics of layer 9: steps with more bytes behind, with bytes ahead, with less that may be told; every run ends (no program in sight). -/
import Derived.Test.YtcjcmlnbchmnnaaImRead
namespace Go.Proofs.Ytcjcmlnbchmnnaa.Im

/-! more bytes behind -/
theorem Firm.rfl' {α : Type} (x : Except Int α) : Firm x x := .inr rfl
theorem elemP_app (s t : List UInt8) (most : Nat) (a : St) : Firm (elemP s most a) (elemP (s ++ t) most a) := by
  unfold elemP
  rcases symP_app a.lit s t a.pos with h | h
  · rw [h]; exact .inl rfl
  rw [h]
  rcases symP a.lit s a.pos with e | ⟨x, p1⟩
  · exact .inr rfl
  dsimp only
  by_cases h1 : x < 256
  · rw [if_pos h1, if_pos h1]; exact .inr rfl
  rw [if_neg h1, if_neg h1]
  by_cases h2 : x = 256
  · rw [if_pos h2, if_pos h2]; exact .inr rfl
  rw [if_neg h2, if_neg h2]
  rcases lenP_app s t x p1 with h | h
  · rw [h]; exact .inl rfl
  rw [h]
  rcases lenP s x p1 with e | ⟨n, p2⟩
  · exact .inr rfl
  dsimp only
  rcases symP_app a.dist s t p2 with h | h
  · rw [h]; exact .inl rfl
  rw [h]
  rcases symP a.dist s p2 with e | ⟨y, p3⟩
  · exact .inr rfl
  dsimp only
  rcases dstP_app s t y p3 with h | h
  · rw [h]; exact .inl rfl
  rw [h]
  exact .inr rfl
theorem lensP_app (ns : List Nat) (s t : List UInt8) (all : Nat) : ∀ f pos l, Firm (lensP ns s all f pos l) (lensP ns (s ++ t) all f pos l)
  | 0, _, _ => .inr rfl
  | f + 1, pos, l => by
    unfold lensP
    by_cases h0 : l.length < all
    · rw [if_pos h0, if_pos h0]
      rcases symP_app ns s t pos with h | h
      · rw [h]; exact .inl rfl
      rw [h]
      rcases symP ns s pos with e | ⟨x, p⟩
      · exact .inr rfl
      dsimp only
      have key : ∀ (m b : Nat) (v : Nat), Firm (match bitsP s p b with
            | .error e => (.error e : Except Int (List Nat × Nat))
            | .ok (k, p') => if l.length + (m + k) ≤ all then lensP ns s all f p' (l ++ List.replicate (m + k) v) else .error 90)
          (match bitsP (s ++ t) p b with
            | .error e => (.error e : Except Int (List Nat × Nat))
            | .ok (k, p') => if l.length + (m + k) ≤ all then lensP ns (s ++ t) all f p' (l ++ List.replicate (m + k) v) else .error 90) := by
        intro m b v
        rcases bitsP_app s t p b with h | h
        · rw [h]; exact .inl rfl
        rw [h]
        rcases bitsP s p b with e | ⟨k, p'⟩
        · exact .inr rfl
        dsimp only
        by_cases h3 : l.length + (m + k) ≤ all
        · rw [if_pos h3, if_pos h3]; exact lensP_app ns s t all f _ _
        · rw [if_neg h3, if_neg h3]; exact .inr rfl
      by_cases h1 : x = 16
      · rw [if_pos h1, if_pos h1]
        by_cases h2 : l = []
        · rw [if_pos h2, if_pos h2]; exact .inr rfl
        · rw [if_neg h2, if_neg h2]; exact key 3 2 _
      rw [if_neg h1, if_neg h1]
      by_cases h1 : x = 17
      · rw [if_pos h1, if_pos h1]; exact key 3 3 0
      rw [if_neg h1, if_neg h1]
      by_cases h1 : x = 18
      · rw [if_pos h1, if_pos h1]; exact key 11 7 0
      rw [if_neg h1, if_neg h1]
      exact lensP_app ns s t all f _ _
    · rw [if_neg h0, if_neg h0]; exact .inr rfl
theorem ownP_app (s t : List UInt8) : ∀ (is own : List Nat) (pos : Nat), Firm (ownP s is own pos) (ownP (s ++ t) is own pos)
  | [], _, _ => .inr rfl
  | i :: is, own, pos => by
    unfold ownP
    rcases bitsP_app s t pos 3 with h | h
    · rw [h]; exact .inl rfl
    rw [h]
    rcases bitsP s pos 3 with e | ⟨x, p⟩
    · exact .inr rfl
    exact ownP_app s t is _ p
theorem tabsP_app (s t : List UInt8) (a : St) : Firm (tabsP s a) (tabsP (s ++ t) a) := by
  unfold tabsP
  rcases bitsP_app s t a.pos 5 with h | h
  · rw [h]; exact .inl rfl
  rw [h]
  rcases bitsP s a.pos 5 with e | ⟨hl, p1⟩
  · exact .inr rfl
  dsimp only
  rcases bitsP_app s t p1 5 with h | h
  · rw [h]; exact .inl rfl
  rw [h]
  rcases bitsP s p1 5 with e | ⟨hd, p2⟩
  · exact .inr rfl
  dsimp only
  rcases bitsP_app s t p2 4 with h | h
  · rw [h]; exact .inl rfl
  rw [h]
  rcases bitsP s p2 4 with e | ⟨hc, p3⟩
  · exact .inr rfl
  dsimp only
  by_cases h1 : ¬ (hl ≤ 29 ∧ hd ≤ 29)
  · rw [if_pos h1, if_pos h1]; exact .inr rfl
  rw [if_neg h1, if_neg h1]
  rcases ownP_app s t (order.take (hc + 4)) (List.replicate 19 0) p3 with h | h
  · rw [h]; exact .inl rfl
  rw [h]
  rcases ownP s (order.take (hc + 4)) (List.replicate 19 0) p3 with e | ⟨own, p4⟩
  · exact .inr rfl
  dsimp only
  by_cases h2 : Hm.err own ≠ 0
  · rw [if_pos h2, if_pos h2]; exact .inr rfl
  rw [if_neg h2, if_neg h2]
  rcases lensP_app own s t (hl + 257 + hd + 1) (hl + 257 + hd + 2) p4 [] with h | h
  · rw [h]; exact .inl rfl
  rw [h]
  exact .inr rfl
theorem begP_app (s t : List UInt8) (a : St) : Firm (begP s a) (begP (s ++ t) a) := by
  unfold begP
  rcases bitsP_app s t a.pos 1 with h | h
  · rw [h]; exact .inl rfl
  rw [h]
  rcases bitsP s a.pos 1 with e | ⟨b, p1⟩
  · exact .inr rfl
  dsimp only
  rcases bitsP_app s t p1 2 with h | h
  · rw [h]; exact .inl rfl
  rw [h]
  rcases bitsP s p1 2 with e | ⟨k, p2⟩
  · exact .inr rfl
  dsimp only
  by_cases h0 : k = 0
  · rw [if_pos h0, if_pos h0]
    rcases bitsP_app s t ((p2 + 7) / 8 * 8) 16 with h | h
    · rw [h]; exact .inl rfl
    rw [h]
    rcases bitsP s ((p2 + 7) / 8 * 8) 16 with e | ⟨n, p3⟩
    · exact .inr rfl
    dsimp only
    rcases bitsP_app s t p3 16 with h | h
    · rw [h]; exact .inl rfl
    rw [h]
    exact .inr rfl
  rw [if_neg h0, if_neg h0]
  by_cases h1 : k = 1
  · rw [if_pos h1, if_pos h1]; exact .inr rfl
  rw [if_neg h1, if_neg h1]
  by_cases h2 : k = 2
  · rw [if_pos h2, if_pos h2]; exact tabsP_app s t _
  rw [if_neg h2, if_neg h2]; exact .inr rfl
theorem stepP_app (s t : List UInt8) (most : Nat) (a : St) : Firm (stepP s most a) (stepP (s ++ t) most a) := by
  unfold stepP
  by_cases h0 : a.state = 0
  · rw [if_pos h0, if_pos h0]; exact begP_app s t a
  rw [if_neg h0, if_neg h0]
  by_cases h1 : a.state = 1
  · rw [if_pos h1, if_pos h1]
    by_cases h2 : a.left = 0
    · rw [if_pos h2, if_pos h2]; exact .inr rfl
    rw [if_neg h2, if_neg h2]
    rcases bitsP_app s t a.pos 8 with h | h
    · rw [h]; exact .inl rfl
    rw [h]; exact .inr rfl
  rw [if_neg h1, if_neg h1]; exact elemP_app s t most a
theorem stepP_app_ok {s : List UInt8} (t : List UInt8) {most : Nat} {a b : St} (h : stepP s most a = .ok b) : stepP (s ++ t) most a = .ok b := by
  rcases stepP_app s t most a with k | k
  · rw [h] at k; cases k
  · rw [k, h]
theorem stepP_app_err {s : List UInt8} (t : List UInt8) {most : Nat} {a : St} {e : Int} (h : stepP s most a = .error e) (he : e ≠ 0) : stepP (s ++ t) most a = .error e := by
  rcases stepP_app s t most a with k | k
  · rw [h] at k; cases k; exact absurd rfl he
  · rw [k, h]
/-- a run goes on from where it stood for want of bits -/
theorem Run.then {s : List UInt8} {most : Nat} {a b c : St} {e f : Int} (t : List UInt8) (h : Run s most a b e) (he : e = 0) (k : Run (s ++ t) most b c f) : Run (s ++ t) most a c f := by
  induction h with
  | done _ => exact k
  | stop _ _ => exact k
  | step h1 h2 _ ih => exact .step h1 (stepP_app_ok t h2) (ih he k)
/-- what is wrong stays wrong -/
theorem Run.wrong {s : List UInt8} {most : Nat} {a b : St} {e : Int} (t : List UInt8) (h : Run s most a b e) (he : e ≠ 0) : Run (s ++ t) most a b e := by
  induction h with
  | done _ => exact absurd rfl he
  | stop h1 h2 => exact .stop h1 (stepP_app_err t h2 he)
  | step h1 h2 _ ih => exact .step h1 (stepP_app_ok t h2) (ih he)
theorem Run.ended {s : List UInt8} {most : Nat} {a b : St} (t : List UInt8) (h : Run s most a b 0) (hb : b.state = 3) : Run (s ++ t) most a b 0 := h.then t rfl (.done hb)
theorem Run.err_or {s : List UInt8} {most : Nat} {a b : St} {e : Int} (h : Run s most a b e) (hb : b.state = 3) : e = 0 := by
  induction h with
  | done _ => rfl
  | stop h1 _ => exact absurd hb h1
  | step _ _ _ ih => exact ih hb

/-! bytes ahead -/
def up2 (k : Nat) (x : Nat × Nat) : Nat × Nat := (x.1, 8 * k + x.2)
def St.up (k : Nat) (a : St) : St := { a with pos := 8 * k + a.pos }
def lift {α β : Type} (f : α → β) : Except Int α → Except Int β
  | .ok x => .ok (f x)
  | .error e => .error e
theorem bitOf_pre (u s : List UInt8) (bit : Nat) : Hm.bitOf (u ++ s) (8 * u.length + bit) = Hm.bitOf s bit := by
  unfold Hm.bitOf
  have e1 : (8 * u.length + bit) / 8 = u.length + bit / 8 := by omega
  have e2 : (8 * u.length + bit) % 8 = bit % 8 := by omega
  rw [e1, e2, List.getD_eq_getElem?_getD, List.getD_eq_getElem?_getD, List.getElem?_append_right (by omega)]
  congr 5
  omega
theorem num_pre (u s : List UInt8) (pos : Nat) : ∀ n, num (u ++ s) (8 * u.length + pos) n = num s pos n
  | 0 => rfl
  | n + 1 => by rw [num, num, num_pre u s pos n, Nat.add_assoc, bitOf_pre]
theorem rd_pre (f : Nat → Nat → Option Int) (u s : List UInt8) : ∀ n c l bit : Nat, Hm.rd f (u ++ s) n c l (8 * u.length + bit) =
    ((Hm.rd f s n c l bit).1, (if (Hm.rd f s n c l bit).2.2 = 0 then 8 * (u.length : Int) else 0) + (Hm.rd f s n c l bit).2.1, (Hm.rd f s n c l bit).2.2)
  | 0, c, l, bit => by simp [Hm.rd]
  | n + 1, c, l, bit => by
    cases hf : f c l with
    | none => rw [Hm.rd_none hf, Hm.rd_none hf]; rfl
    | some y =>
      by_cases hy : 0 ≤ y
      · rw [Hm.rd_sym hf hy, Hm.rd_sym hf hy]; simp
      · have e1 : (8 * u.length + bit) / 8 = u.length + bit / 8 := by omega
        by_cases hb : s.length ≤ bit / 8
        · rw [Hm.rd_end hf hy hb, Hm.rd_end hf hy (by rw [List.length_append, e1]; omega)]; rfl
        · rw [Hm.rd_on hf hy hb, Hm.rd_on hf hy (by rw [List.length_append, e1]; omega), bitOf_pre, Nat.add_assoc, rd_pre f u s n _ _ _]
theorem bitsP_pre (u s : List UInt8) (pos n : Nat) : bitsP (u ++ s) (8 * u.length + pos) n = lift (up2 u.length) (bitsP s pos n) := by
  unfold bitsP
  by_cases h : pos + n ≤ 8 * s.length
  · rw [if_pos h, if_pos (by rw [List.length_append]; omega), num_pre]; simp only [lift, up2, Nat.add_assoc]
  · rw [if_neg h, if_neg (by rw [List.length_append]; omega)]; rfl
theorem symP_pre (ns : List Nat) (u s : List UInt8) (pos : Nat) : symP ns (u ++ s) (8 * u.length + pos) = lift (up2 u.length) (symP ns s pos) := by
  cases h : symP ns s pos with
  | ok v =>
    obtain ⟨x, p⟩ := v
    obtain ⟨_, _, _, h4⟩ := symP_ok h
    have e : Hm.read ns (u ++ s) (8 * u.length + pos) = ((x : Int), 8 * (u.length : Int) + (p : Int), 0) := by
      unfold Hm.read at h4 ⊢
      rw [rd_pre, h4]; rfl
    unfold symP
    rw [e]
    simp only [if_true, lift, up2]
    rw [show (8 * (u.length : Int) + (p : Int)).toNat = 8 * u.length + p by omega]; rfl
  | error e =>
    obtain ⟨x, nx, c, h1, h2, rfl⟩ := symP_err h
    have e : Hm.read ns (u ++ s) (8 * u.length + pos) = (x, nx, c) := by
      unfold Hm.read at h1 ⊢
      rw [rd_pre, h1, if_neg h2]; simp
    unfold symP
    rw [e]
    simp only [if_neg h2, lift]
theorem lenP_pre (u s : List UInt8) (x pos : Nat) : lenP (u ++ s) x (8 * u.length + pos) = lift (up2 u.length) (lenP s x pos) := by
  unfold lenP
  by_cases hx : 285 < x
  · rw [if_pos hx, if_pos hx]; rfl
  rw [if_neg hx, if_neg hx]
  by_cases h : pos + lenMore x ≤ 8 * s.length
  · rw [if_pos h, if_pos (by rw [List.length_append]; omega), num_pre]; simp only [lift, up2, Nat.add_assoc]
  · rw [if_neg h, if_neg (by rw [List.length_append]; omega)]; rfl
theorem dstP_pre (u s : List UInt8) (x pos : Nat) : dstP (u ++ s) x (8 * u.length + pos) = lift (up2 u.length) (dstP s x pos) := by
  unfold dstP
  by_cases hx : 29 < x
  · rw [if_pos hx, if_pos hx]; rfl
  rw [if_neg hx, if_neg hx]
  by_cases h : pos + dstMore x ≤ 8 * s.length
  · rw [if_pos h, if_pos (by rw [List.length_append]; omega), num_pre]; simp only [lift, up2, Nat.add_assoc]
  · rw [if_neg h, if_neg (by rw [List.length_append]; omega)]; rfl
theorem align_pre (k p : Nat) : (8 * k + p + 7) / 8 * 8 = 8 * k + (p + 7) / 8 * 8 := by omega
theorem endsP_pre (k : Nat) (a : St) : endsP (a.up k) = (endsP a).up k := by
  obtain ⟨pos, state, last, left, lit, dist, out⟩ := a
  cases last with
  | true => simp only [endsP, St.up, if_true]; rw [align_pre]
  | false => rfl
theorem elemP_pre (u s : List UInt8) (most : Nat) (a : St) : elemP (u ++ s) most (a.up u.length) = lift (St.up u.length) (elemP s most a) := by
  unfold elemP
  rw [show (a.up u.length).lit = a.lit from rfl, show (a.up u.length).dist = a.dist from rfl, show (a.up u.length).out = a.out from rfl, show (a.up u.length).pos = 8 * u.length + a.pos from rfl, symP_pre]
  rcases symP a.lit s a.pos with e | ⟨x, p1⟩
  · rfl
  simp only [lift, up2]
  by_cases h1 : x < 256
  · rw [if_pos h1, if_pos h1]
    by_cases h2 : a.out.length < most
    · rw [if_pos h2, if_pos h2]; rfl
    · rw [if_neg h2, if_neg h2]
  rw [if_neg h1, if_neg h1]
  by_cases h2 : x = 256
  · rw [if_pos h2, if_pos h2]
    exact congrArg Except.ok (endsP_pre u.length { a with pos := p1 })
  rw [if_neg h2, if_neg h2, lenP_pre]
  rcases lenP s x p1 with e | ⟨n, p2⟩
  · rfl
  simp only [lift, up2]
  rw [symP_pre]
  rcases symP a.dist s p2 with e | ⟨y, p3⟩
  · rfl
  simp only [lift, up2]
  rw [dstP_pre]
  rcases dstP s y p3 with e | ⟨d, p4⟩
  · rfl
  simp only [lift, up2]
  by_cases h3 : a.out.length < d
  · rw [if_pos h3, if_pos h3]
  rw [if_neg h3, if_neg h3]
  by_cases h4 : most < a.out.length + n
  · rw [if_pos h4, if_pos h4]
  rw [if_neg h4, if_neg h4]; rfl
def upL (k : Nat) (x : List Nat × Nat) : List Nat × Nat := (x.1, 8 * k + x.2)
theorem lensP_pre (ns : List Nat) (u s : List UInt8) (all : Nat) : ∀ f pos l, lensP ns (u ++ s) all f (8 * u.length + pos) l = lift (upL u.length) (lensP ns s all f pos l)
  | 0, _, _ => rfl
  | f + 1, pos, l => by
    unfold lensP
    by_cases h0 : l.length < all
    · rw [if_pos h0, if_pos h0, symP_pre]
      rcases symP ns s pos with e | ⟨x, p⟩
      · rfl
      simp only [lift, up2]
      have key : ∀ (m b : Nat) (v : Nat), (match bitsP (u ++ s) (8 * u.length + p) b with
            | .error e => (.error e : Except Int (List Nat × Nat))
            | .ok (k, p') => if l.length + (m + k) ≤ all then lensP ns (u ++ s) all f p' (l ++ List.replicate (m + k) v) else .error 90) = lift (upL u.length)
          (match bitsP s p b with
            | .error e => (.error e : Except Int (List Nat × Nat))
            | .ok (k, p') => if l.length + (m + k) ≤ all then lensP ns s all f p' (l ++ List.replicate (m + k) v) else .error 90) := by
        intro m b v
        rw [bitsP_pre]
        rcases bitsP s p b with e | ⟨k, p'⟩
        · rfl
        simp only [lift, up2]
        by_cases h3 : l.length + (m + k) ≤ all
        · rw [if_pos h3, if_pos h3]; exact lensP_pre ns u s all f _ _
        · rw [if_neg h3, if_neg h3]
      by_cases h1 : x = 16
      · rw [if_pos h1, if_pos h1]
        by_cases h2 : l = []
        · rw [if_pos h2, if_pos h2]
        · rw [if_neg h2, if_neg h2]; exact key 3 2 _
      rw [if_neg h1, if_neg h1]
      by_cases h1 : x = 17
      · rw [if_pos h1, if_pos h1]; exact key 3 3 0
      rw [if_neg h1, if_neg h1]
      by_cases h1 : x = 18
      · rw [if_pos h1, if_pos h1]; exact key 11 7 0
      rw [if_neg h1, if_neg h1]
      exact lensP_pre ns u s all f _ _
    · rw [if_neg h0, if_neg h0]; rfl
theorem ownP_pre (u s : List UInt8) : ∀ (is own : List Nat) (pos : Nat), ownP (u ++ s) is own (8 * u.length + pos) = lift (upL u.length) (ownP s is own pos)
  | [], _, _ => rfl
  | i :: is, own, pos => by
    unfold ownP
    rw [bitsP_pre]
    rcases bitsP s pos 3 with e | ⟨x, p⟩
    · rfl
    exact ownP_pre u s is _ p
theorem tabsP_pre (u s : List UInt8) (a : St) : tabsP (u ++ s) (a.up u.length) = lift (St.up u.length) (tabsP s a) := by
  unfold tabsP
  rw [show (a.up u.length).pos = 8 * u.length + a.pos from rfl, bitsP_pre]
  rcases bitsP s a.pos 5 with e | ⟨hl, p1⟩
  · rfl
  simp only [lift, up2]
  rw [bitsP_pre]
  rcases bitsP s p1 5 with e | ⟨hd, p2⟩
  · rfl
  simp only [lift, up2]
  rw [bitsP_pre]
  rcases bitsP s p2 4 with e | ⟨hc, p3⟩
  · rfl
  simp only [lift, up2]
  by_cases h1 : ¬ (hl ≤ 29 ∧ hd ≤ 29)
  · rw [if_pos h1, if_pos h1]
  rw [if_neg h1, if_neg h1, ownP_pre]
  rcases ownP s (order.take (hc + 4)) (List.replicate 19 0) p3 with e | ⟨own, p4⟩
  · rfl
  simp only [lift, upL]
  by_cases h2 : Hm.err own ≠ 0
  · rw [if_pos h2, if_pos h2]
  rw [if_neg h2, if_neg h2, lensP_pre]
  rcases lensP own s (hl + 257 + hd + 1) (hl + 257 + hd + 2) p4 [] with e | ⟨l, p5⟩
  · rfl
  simp only [lift, upL]
  by_cases h3 : l.getD 256 0 = 0
  · rw [if_pos h3, if_pos h3]
  rw [if_neg h3, if_neg h3]
  by_cases h4 : Hm.err (l.take (hl + 257)) ≠ 0 ∨ Hm.err (l.drop (hl + 257)) ≠ 0
  · rw [if_pos h4, if_pos h4]
  rw [if_neg h4, if_neg h4]; rfl
theorem begP_pre (u s : List UInt8) (a : St) : begP (u ++ s) (a.up u.length) = lift (St.up u.length) (begP s a) := by
  unfold begP
  rw [show (a.up u.length).pos = 8 * u.length + a.pos from rfl, bitsP_pre]
  rcases bitsP s a.pos 1 with e | ⟨b, p1⟩
  · rfl
  simp only [lift, up2]
  rw [bitsP_pre]
  rcases bitsP s p1 2 with e | ⟨k, p2⟩
  · rfl
  simp only [lift, up2]
  by_cases h0 : k = 0
  · rw [if_pos h0, if_pos h0, align_pre, bitsP_pre]
    rcases bitsP s ((p2 + 7) / 8 * 8) 16 with e | ⟨n, p3⟩
    · rfl
    simp only [lift, up2]
    rw [bitsP_pre]
    rcases bitsP s p3 16 with e | ⟨m, p4⟩
    · rfl
    simp only [lift, up2]
    by_cases h1 : n + m = 65535
    · rw [if_pos h1, if_pos h1]; rfl
    · rw [if_neg h1, if_neg h1]
  rw [if_neg h0, if_neg h0]
  by_cases h1 : k = 1
  · rw [if_pos h1, if_pos h1]; rfl
  rw [if_neg h1, if_neg h1]
  by_cases h2 : k = 2
  · rw [if_pos h2, if_pos h2]
    exact tabsP_pre u s { a with pos := p2, last := b == 1 }
  rw [if_neg h2, if_neg h2]
theorem stepP_pre (u s : List UInt8) (most : Nat) (a : St) : stepP (u ++ s) most (a.up u.length) = lift (St.up u.length) (stepP s most a) := by
  unfold stepP
  rw [show (a.up u.length).state = a.state from rfl, show (a.up u.length).left = a.left from rfl, show (a.up u.length).out = a.out from rfl, show (a.up u.length).pos = 8 * u.length + a.pos from rfl]
  by_cases h0 : a.state = 0
  · rw [if_pos h0, if_pos h0]; exact begP_pre u s a
  rw [if_neg h0, if_neg h0]
  by_cases h1 : a.state = 1
  · rw [if_pos h1, if_pos h1]
    by_cases h2 : a.left = 0
    · rw [if_pos h2, if_pos h2, endsP_pre]; rfl
    rw [if_neg h2, if_neg h2, bitsP_pre]
    rcases bitsP s a.pos 8 with e | ⟨c, p⟩
    · rfl
    simp only [lift, up2]
    by_cases h3 : a.out.length < most
    · rw [if_pos h3, if_pos h3]; rfl
    · rw [if_neg h3, if_neg h3]
  rw [if_neg h1, if_neg h1]; exact elemP_pre u s most a
theorem Run.pre {s : List UInt8} {most : Nat} {a b : St} {e : Int} (u : List UInt8) (h : Run s most a b e) : Run (u ++ s) most (a.up u.length) (b.up u.length) e := by
  induction h with
  | done h => exact .done h
  | stop h1 h2 => exact .stop h1 (by rw [stepP_pre, h2]; rfl)
  | step h1 h2 _ ih => exact .step h1 (by rw [stepP_pre, h2]; rfl) ih
end Go.Proofs.Ytcjcmlnbchmnnaa.Im
