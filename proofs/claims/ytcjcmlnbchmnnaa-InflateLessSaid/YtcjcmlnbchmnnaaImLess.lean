/- Plain mathematics of layer 9: with less that may be told; a stream cut short (no program in sight). -/
import Derived.Test.YtcjcmlnbchmnnaaImEnd
namespace Go.Proofs.Ytcjcmlnbchmnnaa.Im

theorem elemP_less {s : List UInt8} {most k : Nat} {a b : St} (h : elemP s most a = .ok b) (ha : a.out.length ≤ k) : elemP s k a = if b.out.length ≤ k then .ok b else .error 93 := by
  unfold elemP at h ⊢
  cases hx : symP a.lit s a.pos with
  | error e => rw [hx] at h; cases h
  | ok v =>
  obtain ⟨x, p1⟩ := v
  rw [hx] at h
  dsimp only at h ⊢
  by_cases c1 : x < 256
  · rw [if_pos c1] at h ⊢
    by_cases c2 : a.out.length < most
    · rw [if_pos c2] at h; cases h
      dsimp only
      rw [List.length_append]
      simp only [List.length_cons, List.length_nil]
      by_cases c3 : a.out.length < k
      · rw [if_pos c3, if_pos (by omega)]
      · rw [if_neg c3, if_neg (by omega)]
    · rw [if_neg c2] at h; cases h
  rw [if_neg c1] at h ⊢
  by_cases c2 : x = 256
  · rw [if_pos c2] at h ⊢; cases h
    rw [if_pos]
    unfold endsP
    dsimp only
    split <;> exact ha
  rw [if_neg c2] at h ⊢
  cases hn : lenP s x p1 with
  | error e => rw [hn] at h; cases h
  | ok v =>
  obtain ⟨n, p2⟩ := v
  rw [hn] at h
  dsimp only at h ⊢
  cases hy : symP a.dist s p2 with
  | error e => rw [hy] at h; cases h
  | ok v =>
  obtain ⟨y, p3⟩ := v
  rw [hy] at h
  dsimp only at h ⊢
  cases hd : dstP s y p3 with
  | error e => rw [hd] at h; cases h
  | ok v =>
  obtain ⟨d, p4⟩ := v
  rw [hd] at h
  dsimp only at h ⊢
  by_cases c3 : a.out.length < d
  · rw [if_pos c3] at h; cases h
  rw [if_neg c3] at h ⊢
  by_cases c4 : most < a.out.length + n
  · rw [if_pos c4] at h; cases h
  rw [if_neg c4] at h; cases h
  simp only [copyP_length]
  by_cases c5 : k < a.out.length + n
  · rw [if_pos c5, if_neg (by omega)]
  · rw [if_neg c5, if_pos (by omega)]
theorem stepP_less {s : List UInt8} {most k : Nat} {a b : St} (h : stepP s most a = .ok b) (ha : a.out.length ≤ k) : stepP s k a = if b.out.length ≤ k then .ok b else .error 93 := by
  unfold stepP at h ⊢
  by_cases h0 : a.state = 0
  · rw [if_pos h0] at h ⊢
    have hw : b.out = a.out := by
      unfold begP at h
      cases h1 : bitsP s a.pos 1 with
      | error e => rw [h1] at h; cases h
      | ok v =>
      obtain ⟨x, p1⟩ := v
      rw [h1] at h
      dsimp only at h
      cases h2 : bitsP s p1 2 with
      | error e => rw [h2] at h; cases h
      | ok v =>
      obtain ⟨k, p2⟩ := v
      rw [h2] at h
      dsimp only at h
      have b2 := bitsP_ok h2
      by_cases c0 : k = 0
      · rw [if_pos c0] at h
        cases h3 : bitsP s ((p2 + 7) / 8 * 8) 16 with
        | error e => rw [h3] at h; cases h
        | ok v =>
        obtain ⟨n, p3⟩ := v
        rw [h3] at h
        dsimp only at h
        cases h4 : bitsP s p3 16 with
        | error e => rw [h4] at h; cases h
        | ok v =>
        obtain ⟨m, p4⟩ := v
        rw [h4] at h
        dsimp only at h
        by_cases c1 : n + m = 65535
        · rw [if_pos c1] at h; cases h; rfl
        · rw [if_neg c1] at h; cases h
      rw [if_neg c0] at h
      by_cases c1 : k = 1
      · rw [if_pos c1] at h; cases h; rfl
      rw [if_neg c1] at h
      by_cases c2 : k = 2
      · rw [if_pos c2] at h
        obtain ⟨t1, t2, t3, t4, t5, t6⟩ := tabsP_went h
        exact t4
      rw [if_neg c2] at h; cases h
    rw [h, hw, if_pos ha]
  rw [if_neg h0] at h ⊢
  by_cases h1 : a.state = 1
  · rw [if_pos h1] at h ⊢
    by_cases h2 : a.left = 0
    · rw [if_pos h2] at h ⊢; cases h
      rw [if_pos]
      unfold endsP
      split <;> exact ha
    rw [if_neg h2] at h ⊢
    cases hb : bitsP s a.pos 8 with
    | error e => rw [hb] at h; cases h
    | ok v =>
    obtain ⟨c, p⟩ := v
    rw [hb] at h
    dsimp only at h ⊢
    by_cases c2 : a.out.length < most
    · rw [if_pos c2] at h; cases h
      dsimp only
      rw [List.length_append]
      simp only [List.length_cons, List.length_nil]
      by_cases c3 : a.out.length < k
      · rw [if_pos c3, if_pos (by omega)]
      · rw [if_neg c3, if_neg (by omega)]
    · rw [if_neg c2] at h; cases h
  rw [if_neg h1] at h ⊢; exact elemP_less h ha
/-- a run to the end, with less that may be told: it ends as before, or it is too much -/
theorem Run.less {s : List UInt8} {most k : Nat} {a b : St} {e : Int} (h : Run s most a b e) (he : e = 0) (hb : b.state = 3) (hp : a.pos ≤ 8 * s.length) (h3 : a.state ≤ 3) :
    a.out.length ≤ k → (b.out.length ≤ k → Run s k a b 0) ∧ (k < b.out.length → ∃ c, Run s k a c 93) := by
  induction h with
  | done h => exact fun ha => ⟨fun _ => .done h, fun hlt => by omega⟩
  | stop h1 _ => exact absurd hb h1
  | step h1 h2 h4 ih =>
    intro ha
    have hw := stepP_went h2 hp h3
    have hs := stepP_less h2 ha
    rename_i a' b' _
    have hw2 := h4.went hw.far hw.state
    obtain ⟨o, ho⟩ := hw2.2.2.1
    have hle : a'.out.length ≤ b'.out.length := by rw [ho, List.length_append]; omega
    by_cases c : a'.out.length ≤ k
    · rw [if_pos c] at hs
      obtain ⟨i1, i2⟩ := ih he hb hw.far hw.state c
      exact ⟨fun q => .step h1 hs (i1 q), fun q => let ⟨d, hd⟩ := i2 q; ⟨d, .step h1 hs hd⟩⟩
    · rw [if_neg c] at hs
      exact ⟨fun q => by omega, fun _ => ⟨_, .stop h1 hs⟩⟩
/-- a reader at the beginning -/
def start : St := { pos := 0, state := 0, last := false, left := 0, lit := [], dist := [], out := [] }
/-- where it ends the bits end with a byte -/
def Even (a : St) : Prop := a.state = 3 → a.pos % 8 = 0
theorem stepP_even {s : List UInt8} {most : Nat} {a b : St} (h : stepP s most a = .ok b) (ha : a.state ≠ 3) : Even b := by
  intro hb
  have ends : ∀ a : St, (endsP a).state = 3 → (endsP a).pos % 8 = 0 := by
    intro a q
    unfold endsP at q ⊢
    split
    · dsimp only; omega
    · rename_i c; rw [if_neg c] at q; cases q
  unfold stepP at h
  by_cases h0 : a.state = 0
  · rw [if_pos h0] at h
    unfold begP at h
    cases h1 : bitsP s a.pos 1 with
    | error e => rw [h1] at h; cases h
    | ok v =>
    obtain ⟨x, p1⟩ := v
    rw [h1] at h
    dsimp only at h
    cases h2 : bitsP s p1 2 with
    | error e => rw [h2] at h; cases h
    | ok v =>
    obtain ⟨k, p2⟩ := v
    rw [h2] at h
    have b2 := bitsP_ok h2
    dsimp only at h
    by_cases c0 : k = 0
    · rw [if_pos c0] at h
      cases h3 : bitsP s ((p2 + 7) / 8 * 8) 16 with
      | error e => rw [h3] at h; cases h
      | ok v =>
      obtain ⟨n, p3⟩ := v
      rw [h3] at h
      dsimp only at h
      cases h4 : bitsP s p3 16 with
      | error e => rw [h4] at h; cases h
      | ok v =>
      obtain ⟨m, p4⟩ := v
      rw [h4] at h
      dsimp only at h
      by_cases c1 : n + m = 65535
      · rw [if_pos c1] at h; cases h; cases hb
      · rw [if_neg c1] at h; cases h
    rw [if_neg c0] at h
    by_cases c1 : k = 1
    · rw [if_pos c1] at h; cases h; cases hb
    rw [if_neg c1] at h
    by_cases c2 : k = 2
    · rw [if_pos c2] at h
      obtain ⟨_, _, t3, _⟩ := tabsP_went h
      omega
    rw [if_neg c2] at h; cases h
  rw [if_neg h0] at h
  by_cases h1 : a.state = 1
  · rw [if_pos h1] at h
    by_cases h2 : a.left = 0
    · rw [if_pos h2] at h; cases h; exact ends _ hb
    rw [if_neg h2] at h
    cases hk : bitsP s a.pos 8 with
    | error e => rw [hk] at h; cases h
    | ok v =>
    obtain ⟨c, p⟩ := v
    rw [hk] at h
    dsimp only at h
    by_cases c2 : a.out.length < most
    · rw [if_pos c2] at h; cases h; dsimp only at hb; omega
    · rw [if_neg c2] at h; cases h
  rw [if_neg h1] at h
  unfold elemP at h
  cases hx : symP a.lit s a.pos with
  | error e => rw [hx] at h; cases h
  | ok v =>
  obtain ⟨x, p1⟩ := v
  rw [hx] at h
  dsimp only at h
  by_cases c1 : x < 256
  · rw [if_pos c1] at h
    by_cases c2 : a.out.length < most
    · rw [if_pos c2] at h; cases h; exact absurd hb ha
    · rw [if_neg c2] at h; cases h
  rw [if_neg c1] at h
  by_cases c2 : x = 256
  · rw [if_pos c2] at h; cases h; exact ends _ hb
  rw [if_neg c2] at h
  cases hn : lenP s x p1 with
  | error e => rw [hn] at h; cases h
  | ok v =>
  obtain ⟨n, p2⟩ := v
  rw [hn] at h
  dsimp only at h
  cases hy : symP a.dist s p2 with
  | error e => rw [hy] at h; cases h
  | ok v =>
  obtain ⟨y, p3⟩ := v
  rw [hy] at h
  dsimp only at h
  cases hd : dstP s y p3 with
  | error e => rw [hd] at h; cases h
  | ok v =>
  obtain ⟨d, p4⟩ := v
  rw [hd] at h
  dsimp only at h
  by_cases c3 : a.out.length < d
  · rw [if_pos c3] at h; cases h
  rw [if_neg c3] at h
  by_cases c4 : most < a.out.length + n
  · rw [if_pos c4] at h; cases h
  rw [if_neg c4] at h; cases h; exact absurd hb ha
theorem Run.even {s : List UInt8} {most : Nat} {a b : St} {e : Int} (h : Run s most a b e) (ha : Even a) (hp : a.pos ≤ 8 * s.length) (h3 : a.state ≤ 3) : Even b := by
  induction h with
  | done _ => exact ha
  | stop _ _ => exact ha
  | step h1 h2 _ ih =>
    have hw := stepP_went h2 hp h3
    exact ih (stepP_even h2 h1) hw.far hw.state
theorem start_even : Even start := fun h => by cases h
/-- a stream that ends, cut ahead of its end, has no bits any more -/
theorem Run.short {s : List UInt8} {most n : Nat} {b : St} (h : Run s most start b 0) (hb : b.state = 3) (hn : 8 * n < b.pos) : ∃ c, Run (s.take n) most start c 0 ∧ c.state ≠ 3 := by
  obtain ⟨c, e, hc⟩ := run_exists (s.take n) most start (Nat.zero_le _) (by simp [start])
  have happ : s.take n ++ s.drop n = s := List.take_append_drop n s
  by_cases he : e = 0
  · subst he
    refine ⟨c, hc, fun h3 => ?_⟩
    have k := hc.ended (s.drop n) h3
    rw [happ] at k
    have hd := (k.det h).1
    have hf := (hc.went (Nat.zero_le _) (by simp [start])).1
    rw [List.length_take] at hf
    subst hd
    omega
  · have k := hc.wrong (s.drop n) he
    rw [happ] at k
    exact absurd (k.det h).2 he
theorem Run.moved {s : List UInt8} {most : Nat} {b : St} {e : Int} (h : Run s most start b e) (hb : b.state = 3) : 0 < b.pos := by
  cases h with
  | done h => cases h
  | stop h1 _ => exact absurd hb (by simp [start])
  | step h1 h2 h4 =>
    have hw := stepP_went h2 (Nat.zero_le _) (by simp [start])
    have hw2 := h4.went hw.far hw.state
    have hg := hw.goes
    have e0 : start.pos = 0 := rfl
    have e1 : start.state = 0 := rfl
    rw [e0, e1] at hg
    simp at hg
    split at hg <;> omega
/-! runs in pieces -/
/-- a reader that has come to b by these bytes, without anything wrong -/
theorem Run.next {full t : List UInt8} {most : Nat} {a b c : St} {e : Int} {k : Nat} (h : Run full most start b 0) (hb : b = a.up k) (hk : k ≤ full.length) (h2 : Run (full.drop k ++ t) most a c e) : Run (full ++ t) most start (c.up k) e := by
  have e0 : full.take k ++ (full.drop k ++ t) = full ++ t := by rw [← List.append_assoc, List.take_append_drop]
  have hl : (full.take k).length = k := by rw [List.length_take]; omega
  have h3 := h2.pre (full.take k)
  rw [hl, e0, ← hb] at h3
  exact h.then t rfl h3
end Go.Proofs.Ytcjcmlnbchmnnaa.Im
