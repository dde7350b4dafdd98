/- Plain mathematics of layer 9: a step goes on, and what it leaves as it was; every run ends (no program in sight). · Plain mathematics of layer 9: with less that may be told; a stream cut short (no program in sight). · Plain mathematics of layer 9: blocks of the kind 0 are told as they are (no program in sight). · Plain mathematics of layer 9: streams by the codes that are always the same (no program in sight). -/
import Derived.Test.YtcjcmlnbchmnnaaIRow
import Derived.Test.YtcjcmlnbchmnnaaPl
/-! ### ImEnd -/
namespace Go.Proofs.Ytcjcmlnbchmnnaa.Im

theorem lensP_mono {ns : List Nat} {s : List UInt8} {all : Nat} : ∀ f pos l l' p', lensP ns s all f pos l = .ok (l', p') → pos ≤ p'
  | 0, _, _, _, _, h => by cases h
  | f + 1, pos, l, l', p', h => by
    unfold lensP at h
    by_cases h0 : l.length < all
    · rw [if_pos h0] at h
      cases hx : symP ns s pos with
      | error e => rw [hx] at h; cases h
      | ok v =>
        obtain ⟨x, p⟩ := v
        rw [hx] at h
        obtain ⟨x1, x2, x3, _⟩ := symP_ok hx
        dsimp only at h
        have key : ∀ (m b : Nat) (v : Nat), (match bitsP s p b with
            | .error e => (.error e : Except Int (List Nat × Nat))
            | .ok (k, p') => if l.length + (m + k) ≤ all then lensP ns s all f p' (l ++ List.replicate (m + k) v) else .error 90) = .ok (l', p') → pos ≤ p' := by
          intro m b v hh
          cases hk : bitsP s p b with
          | error e => rw [hk] at hh; cases hh
          | ok y =>
            obtain ⟨k, q⟩ := y
            rw [hk] at hh
            dsimp only at hh
            have hb := bitsP_ok hk
            by_cases h3 : l.length + (m + k) ≤ all
            · rw [if_pos h3] at hh
              have := lensP_mono f _ _ _ _ hh
              omega
            · rw [if_neg h3] at hh; cases hh
        by_cases h1 : x = 16
        · rw [if_pos h1] at h
          by_cases h2 : l = []
          · rw [if_pos h2] at h; cases h
          · rw [if_neg h2] at h; exact key 3 2 _ h
        rw [if_neg h1] at h
        by_cases h1 : x = 17
        · rw [if_pos h1] at h; exact key 3 3 0 h
        rw [if_neg h1] at h
        by_cases h1 : x = 18
        · rw [if_pos h1] at h; exact key 11 7 0 h
        rw [if_neg h1] at h
        have := lensP_mono f _ _ _ _ h
        omega
    · rw [if_neg h0] at h; cases h; exact Nat.le_refl _
theorem lensP_pos {ns : List Nat} {s : List UInt8} {all : Nat} : ∀ f pos l l' p', lensP ns s all f pos l = .ok (l', p') → pos ≤ 8 * s.length → p' ≤ 8 * s.length
  | 0, _, _, _, _, h, _ => by cases h
  | f + 1, pos, l, l', p', h, hp => by
    unfold lensP at h
    by_cases h0 : l.length < all
    · rw [if_pos h0] at h
      cases hx : symP ns s pos with
      | error e => rw [hx] at h; cases h
      | ok v =>
        obtain ⟨x, p⟩ := v
        rw [hx] at h
        obtain ⟨x1, x2, x3, _⟩ := symP_ok hx
        dsimp only at h
        have key : ∀ (m b : Nat) (v : Nat), (match bitsP s p b with
            | .error e => (.error e : Except Int (List Nat × Nat))
            | .ok (k, p') => if l.length + (m + k) ≤ all then lensP ns s all f p' (l ++ List.replicate (m + k) v) else .error 90) = .ok (l', p') → p' ≤ 8 * s.length := by
          intro m b v hh
          cases hk : bitsP s p b with
          | error e => rw [hk] at hh; cases hh
          | ok y =>
            obtain ⟨k, q⟩ := y
            rw [hk] at hh
            dsimp only at hh
            have hb := bitsP_ok hk
            by_cases h3 : l.length + (m + k) ≤ all
            · rw [if_pos h3] at hh
              exact lensP_pos f _ _ _ _ hh hb.2.2
            · rw [if_neg h3] at hh; cases hh
        by_cases h1 : x = 16
        · rw [if_pos h1] at h
          by_cases h2 : l = []
          · rw [if_pos h2] at h; cases h
          · rw [if_neg h2] at h; exact key 3 2 _ h
        rw [if_neg h1] at h
        by_cases h1 : x = 17
        · rw [if_pos h1] at h; exact key 3 3 0 h
        rw [if_neg h1] at h
        by_cases h1 : x = 18
        · rw [if_pos h1] at h; exact key 11 7 0 h
        rw [if_neg h1] at h
        exact lensP_pos f _ _ _ _ h x3
    · rw [if_neg h0] at h; cases h; exact hp
theorem ownP_pos {s : List UInt8} : ∀ (is own : List Nat) (pos : Nat) (own' : List Nat) (p' : Nat), ownP s is own pos = .ok (own', p') → pos ≤ p' ∧ (pos ≤ 8 * s.length → p' ≤ 8 * s.length)
  | [], _, _, _, _, h => by cases h; exact ⟨Nat.le_refl _, id⟩
  | i :: is, own, pos, own', p', h => by
    unfold ownP at h
    cases hk : bitsP s pos 3 with
    | error e => rw [hk] at h; cases h
    | ok v =>
      obtain ⟨x, p⟩ := v
      rw [hk] at h
      have hb := bitsP_ok hk
      have := ownP_pos is _ p _ _ h
      exact ⟨by omega, fun _ => this.2 hb.2.2⟩
/-- what a step does not change, and how far it goes -/
structure Went (s : List UInt8) (most : Nat) (a b : St) : Prop where
  far : b.pos ≤ 8 * s.length
  goes : 2 * a.pos + (if b.state = 1 then 1 else 0) < 2 * b.pos + (if a.state = 1 then 1 else 0)
  out : ∃ o, b.out = a.out ++ o
  most_ : a.out.length ≤ most → b.out.length ≤ most
  left : a.left ≤ 65535 → b.left ≤ 65535
  state : b.state ≤ 3
theorem elemP_went {s : List UInt8} {most : Nat} {a b : St} (h : elemP s most a = .ok b) (h1 : a.state ≠ 1) (h3 : a.state ≤ 3) : Went s most a b := by
  unfold elemP at h
  cases hx : symP a.lit s a.pos with
  | error e => rw [hx] at h; cases h
  | ok v =>
  obtain ⟨x, p1⟩ := v
  rw [hx] at h
  dsimp only at h
  obtain ⟨x1, x2, x3, _⟩ := symP_ok hx
  by_cases c1 : x < 256
  · rw [if_pos c1] at h
    by_cases c2 : a.out.length < most
    · rw [if_pos c2] at h; cases h
      exact ⟨x3, by simp only [if_neg h1]; omega, ⟨_, rfl⟩, fun _ => by simp only [List.length_append, List.length_cons, List.length_nil]; omega, id, h3⟩
    · rw [if_neg c2] at h; cases h
  rw [if_neg c1] at h
  by_cases c2 : x = 256
  · rw [if_pos c2] at h; cases h
    unfold endsP
    dsimp only
    split
    · exact ⟨by dsimp only; omega, by simp only [if_neg h1]; simp; omega, ⟨[], by simp⟩, id, id, by simp⟩
    · exact ⟨x3, by simp only [if_neg h1]; simp; omega, ⟨[], by simp⟩, id, id, by simp⟩
  rw [if_neg c2] at h
  cases hn : lenP s x p1 with
  | error e => rw [hn] at h; cases h
  | ok v =>
  obtain ⟨n, p2⟩ := v
  rw [hn] at h
  dsimp only at h
  obtain ⟨n1, n2, n3⟩ := lenP_ok hn (by omega)
  cases hy : symP a.dist s p2 with
  | error e => rw [hy] at h; cases h
  | ok v =>
  obtain ⟨y, p3⟩ := v
  rw [hy] at h
  dsimp only at h
  obtain ⟨y1, y2, y3, _⟩ := symP_ok hy
  cases hd : dstP s y p3 with
  | error e => rw [hd] at h; cases h
  | ok v =>
  obtain ⟨d, p4⟩ := v
  rw [hd] at h
  dsimp only at h
  obtain ⟨d1, d2, d3, d4⟩ := dstP_ok hd
  by_cases c3 : a.out.length < d
  · rw [if_pos c3] at h; cases h
  rw [if_neg c3] at h
  by_cases c4 : most < a.out.length + n
  · rw [if_pos c4] at h; cases h
  rw [if_neg c4] at h; cases h
  refine ⟨d4, by simp only [if_neg h1]; omega, ?_, fun _ => by simp only [copyP_length]; omega, id, h3⟩
  clear hd hy hn hx c3 c4
  dsimp only
  induction n with
  | zero => exact ⟨[], by simp [copyP]⟩
  | succ n ih => obtain ⟨o, ho⟩ := ih (by omega); exact ⟨_, by rw [copyP, ho, List.append_assoc]⟩
theorem tabsP_went {s : List UInt8} {a b : St} (h : tabsP s a = .ok b) : b.pos ≤ 8 * s.length ∧ a.pos ≤ b.pos ∧ b.state = 2 ∧ b.out = a.out ∧ b.left = a.left ∧ b.last = a.last := by
  unfold tabsP at h
  cases h1 : bitsP s a.pos 5 with
  | error e => rw [h1] at h; cases h
  | ok v =>
  obtain ⟨hl, p1⟩ := v
  rw [h1] at h
  have b1 := bitsP_ok h1
  dsimp only at h
  cases h2 : bitsP s p1 5 with
  | error e => rw [h2] at h; cases h
  | ok v =>
  obtain ⟨hd, p2⟩ := v
  rw [h2] at h
  have b2 := bitsP_ok h2
  dsimp only at h
  cases h3 : bitsP s p2 4 with
  | error e => rw [h3] at h; cases h
  | ok v =>
  obtain ⟨hc, p3⟩ := v
  rw [h3] at h
  have b3 := bitsP_ok h3
  dsimp only at h
  by_cases c1 : ¬ (hl ≤ 29 ∧ hd ≤ 29)
  · rw [if_pos c1] at h; cases h
  rw [if_neg c1] at h
  cases h4 : ownP s (order.take (hc + 4)) (List.replicate 19 0) p3 with
  | error e => rw [h4] at h; cases h
  | ok v =>
  obtain ⟨own, p4⟩ := v
  rw [h4] at h
  have b4 := ownP_pos _ _ _ _ _ h4
  dsimp only at h
  by_cases c2 : Hm.err own ≠ 0
  · rw [if_pos c2] at h; cases h
  rw [if_neg c2] at h
  cases h5 : lensP own s (hl + 257 + hd + 1) (hl + 257 + hd + 2) p4 [] with
  | error e => rw [h5] at h; cases h
  | ok v =>
  obtain ⟨l, p5⟩ := v
  rw [h5] at h
  have b5 := lensP_mono _ _ _ _ _ h5
  have b6 := lensP_pos _ _ _ _ _ h5 (b4.2 b3.2.2)
  dsimp only at h
  by_cases c3 : l.getD 256 0 = 0
  · rw [if_pos c3] at h; cases h
  rw [if_neg c3] at h
  by_cases c4 : Hm.err (l.take (hl + 257)) ≠ 0 ∨ Hm.err (l.drop (hl + 257)) ≠ 0
  · rw [if_pos c4] at h; cases h
  rw [if_neg c4] at h
  cases h
  exact ⟨b6, by dsimp only; omega, rfl, rfl, rfl, rfl⟩
theorem begP_went {s : List UInt8} {most : Nat} {a b : St} (h : begP s a = .ok b) (h0 : a.state = 0) : Went s most a b := by
  unfold begP at h
  cases h1 : bitsP s a.pos 1 with
  | error e => rw [h1] at h; cases h
  | ok v =>
  obtain ⟨x, p1⟩ := v
  rw [h1] at h
  have b1 := bitsP_ok h1
  dsimp only at h
  cases h2 : bitsP s p1 2 with
  | error e => rw [h2] at h; cases h
  | ok v =>
  obtain ⟨k, p2⟩ := v
  rw [h2] at h
  have b2 := bitsP_ok h2
  dsimp only at h
  by_cases c0 : k = 0
  · rw [if_pos c0] at h
    cases h3 : bitsP s ((p2 + 7) / 8 * 8) 16 with
    | error e => rw [h3] at h; cases h
    | ok v =>
    obtain ⟨n, p3⟩ := v
    rw [h3] at h
    have b3 := bitsP_ok h3
    dsimp only at h
    cases h4 : bitsP s p3 16 with
    | error e => rw [h4] at h; cases h
    | ok v =>
    obtain ⟨m, p4⟩ := v
    rw [h4] at h
    have b4 := bitsP_ok h4
    dsimp only at h
    by_cases c1 : n + m = 65535
    · rw [if_pos c1] at h; cases h
      exact ⟨b4.2.2, by simp [h0]; omega, ⟨[], by simp⟩, id, fun _ => by dsimp only; omega, by simp⟩
    · rw [if_neg c1] at h; cases h
  rw [if_neg c0] at h
  by_cases c1 : k = 1
  · rw [if_pos c1] at h; cases h
    exact ⟨b2.2.2, by simp [h0]; omega, ⟨[], by simp⟩, id, id, by simp⟩
  rw [if_neg c1] at h
  by_cases c2 : k = 2
  · rw [if_pos c2] at h
    obtain ⟨t1, t2, t3, t4, t5, t6⟩ := tabsP_went h
    dsimp only at t2 t4 t5
    refine ⟨t1, by rw [t3]; simp [h0]; omega, ⟨[], by rw [t4]; simp⟩, by rw [t4]; exact id, by rw [t5]; exact id, by rw [t3]; simp⟩
  rw [if_neg c2] at h; cases h
theorem stepP_went {s : List UInt8} {most : Nat} {a b : St} (h : stepP s most a = .ok b) (hp : a.pos ≤ 8 * s.length) (h3 : a.state ≤ 3) : Went s most a b := by
  unfold stepP at h
  by_cases h0 : a.state = 0
  · rw [if_pos h0] at h; exact begP_went h h0
  rw [if_neg h0] at h
  by_cases h1 : a.state = 1
  · rw [if_pos h1] at h
    by_cases h2 : a.left = 0
    · rw [if_pos h2] at h; cases h
      unfold endsP
      split
      · exact ⟨by dsimp only; omega, by simp [h1]; omega, ⟨[], by simp⟩, id, id, by simp⟩
      · exact ⟨hp, by simp [h1], ⟨[], by simp⟩, id, id, by simp⟩
    rw [if_neg h2] at h
    cases hk : bitsP s a.pos 8 with
    | error e => rw [hk] at h; cases h
    | ok v =>
    obtain ⟨c, p⟩ := v
    rw [hk] at h
    have hb := bitsP_ok hk
    dsimp only at h
    by_cases c2 : a.out.length < most
    · rw [if_pos c2] at h; cases h
      exact ⟨hb.2.2, by simp [h1]; omega, ⟨_, rfl⟩, fun _ => by simp only [List.length_append, List.length_cons, List.length_nil]; omega, fun _ => by dsimp only; omega, h3⟩
    · rw [if_neg c2] at h; cases h
  rw [if_neg h1] at h; exact elemP_went h h1 h3
/-- how much a run may still do -/
def gauge (s : List UInt8) (a : St) : Nat := 2 * (8 * s.length) - 2 * a.pos + (if a.state = 1 then 1 else 0)
theorem Went.less {s : List UInt8} {most : Nat} {a b : St} (h : Went s most a b) (hp : a.pos ≤ 8 * s.length) : gauge s b < gauge s a := by
  have h1 := h.goes
  have h2 := h.far
  unfold gauge
  generalize (if b.state = 1 then 1 else 0) = x at *
  generalize (if a.state = 1 then 1 else 0) = y at *
  omega
theorem runs (s : List UInt8) (most : Nat) : ∀ g a, gauge s a ≤ g → a.pos ≤ 8 * s.length → a.state ≤ 3 → ∃ b e, Run s most a b e := by
  intro g
  induction g with
  | zero =>
    intro a hg hp h3
    by_cases h : a.state = 3
    · exact ⟨a, 0, .done h⟩
    · cases hs : stepP s most a with
      | error e => exact ⟨a, e, .stop h hs⟩
      | ok b => have := (stepP_went hs hp h3).less hp; omega
  | succ g ih =>
    intro a hg hp h3
    by_cases h : a.state = 3
    · exact ⟨a, 0, .done h⟩
    · cases hs : stepP s most a with
      | error e => exact ⟨a, e, .stop h hs⟩
      | ok b =>
        have hw := stepP_went hs hp h3
        have hl := hw.less hp
        obtain ⟨c, e, hr⟩ := ih b (by omega) hw.far hw.state
        exact ⟨c, e, .step h hs hr⟩
theorem run_exists (s : List UInt8) (most : Nat) (a : St) (hp : a.pos ≤ 8 * s.length) (h3 : a.state ≤ 3) : ∃ b e, Run s most a b e := runs s most _ a (Nat.le_refl _) hp h3
theorem Run.went {s : List UInt8} {most : Nat} {a b : St} {e : Int} (h : Run s most a b e) (hp : a.pos ≤ 8 * s.length) (h3 : a.state ≤ 3) :
    b.pos ≤ 8 * s.length ∧ a.pos ≤ b.pos ∧ (∃ o, b.out = a.out ++ o) ∧ (a.out.length ≤ most → b.out.length ≤ most) ∧ (a.left ≤ 65535 → b.left ≤ 65535) ∧ b.state ≤ 3 := by
  induction h with
  | done _ => exact ⟨hp, Nat.le_refl _, ⟨[], by simp⟩, id, id, h3⟩
  | stop _ _ => exact ⟨hp, Nat.le_refl _, ⟨[], by simp⟩, id, id, h3⟩
  | step h1 h2 _ ih =>
    have hw := stepP_went h2 hp h3
    obtain ⟨i1, i2, ⟨o, io⟩, i4, i5, i6⟩ := ih hw.far hw.state
    obtain ⟨o0, io0⟩ := hw.out
    have hg := hw.goes
    refine ⟨i1, ?_, ⟨o0 ++ o, by rw [io, io0, List.append_assoc]⟩, fun q => i4 (hw.most_ q), fun q => i5 (hw.left q), i6⟩
    split at hg <;> split at hg <;> omega
end Go.Proofs.Ytcjcmlnbchmnnaa.Im
/-! ### ImLess -/
namespace Go.Proofs.Ytcjcmlnbchmnnaa.Im

theorem elemP_less {s : List UInt8} {most k : Nat} {a b : St} (h : elemP s most a = .ok b) (ha : a.out.length ≤ k) : elemP s k a = if b.out.length ≤ k then .ok b else .error 93 := by
  unfold elemP at h ⊢
  cases hx : symP a.lit s a.pos with
  | error e => rw [hx] at h; cases h
  | ok v =>
  obtain ⟨x, p1⟩ := v
  rw [hx] at h
  dsimp only at h ⊢
  by_cases c1 : x < 256
  · rw [if_pos c1] at h ⊢
    by_cases c2 : a.out.length < most
    · rw [if_pos c2] at h; cases h
      dsimp only
      rw [List.length_append]
      simp only [List.length_cons, List.length_nil]
      by_cases c3 : a.out.length < k
      · rw [if_pos c3, if_pos (by omega)]
      · rw [if_neg c3, if_neg (by omega)]
    · rw [if_neg c2] at h; cases h
  rw [if_neg c1] at h ⊢
  by_cases c2 : x = 256
  · rw [if_pos c2] at h ⊢; cases h
    rw [if_pos]
    unfold endsP
    dsimp only
    split <;> exact ha
  rw [if_neg c2] at h ⊢
  cases hn : lenP s x p1 with
  | error e => rw [hn] at h; cases h
  | ok v =>
  obtain ⟨n, p2⟩ := v
  rw [hn] at h
  dsimp only at h ⊢
  cases hy : symP a.dist s p2 with
  | error e => rw [hy] at h; cases h
  | ok v =>
  obtain ⟨y, p3⟩ := v
  rw [hy] at h
  dsimp only at h ⊢
  cases hd : dstP s y p3 with
  | error e => rw [hd] at h; cases h
  | ok v =>
  obtain ⟨d, p4⟩ := v
  rw [hd] at h
  dsimp only at h ⊢
  by_cases c3 : a.out.length < d
  · rw [if_pos c3] at h; cases h
  rw [if_neg c3] at h ⊢
  by_cases c4 : most < a.out.length + n
  · rw [if_pos c4] at h; cases h
  rw [if_neg c4] at h; cases h
  simp only [copyP_length]
  by_cases c5 : k < a.out.length + n
  · rw [if_pos c5, if_neg (by omega)]
  · rw [if_neg c5, if_pos (by omega)]
theorem stepP_less {s : List UInt8} {most k : Nat} {a b : St} (h : stepP s most a = .ok b) (ha : a.out.length ≤ k) : stepP s k a = if b.out.length ≤ k then .ok b else .error 93 := by
  unfold stepP at h ⊢
  by_cases h0 : a.state = 0
  · rw [if_pos h0] at h ⊢
    have hw : b.out = a.out := by
      unfold begP at h
      cases h1 : bitsP s a.pos 1 with
      | error e => rw [h1] at h; cases h
      | ok v =>
      obtain ⟨x, p1⟩ := v
      rw [h1] at h
      dsimp only at h
      cases h2 : bitsP s p1 2 with
      | error e => rw [h2] at h; cases h
      | ok v =>
      obtain ⟨k, p2⟩ := v
      rw [h2] at h
      dsimp only at h
      have b2 := bitsP_ok h2
      by_cases c0 : k = 0
      · rw [if_pos c0] at h
        cases h3 : bitsP s ((p2 + 7) / 8 * 8) 16 with
        | error e => rw [h3] at h; cases h
        | ok v =>
        obtain ⟨n, p3⟩ := v
        rw [h3] at h
        dsimp only at h
        cases h4 : bitsP s p3 16 with
        | error e => rw [h4] at h; cases h
        | ok v =>
        obtain ⟨m, p4⟩ := v
        rw [h4] at h
        dsimp only at h
        by_cases c1 : n + m = 65535
        · rw [if_pos c1] at h; cases h; rfl
        · rw [if_neg c1] at h; cases h
      rw [if_neg c0] at h
      by_cases c1 : k = 1
      · rw [if_pos c1] at h; cases h; rfl
      rw [if_neg c1] at h
      by_cases c2 : k = 2
      · rw [if_pos c2] at h
        obtain ⟨t1, t2, t3, t4, t5, t6⟩ := tabsP_went h
        exact t4
      rw [if_neg c2] at h; cases h
    rw [h, hw, if_pos ha]
  rw [if_neg h0] at h ⊢
  by_cases h1 : a.state = 1
  · rw [if_pos h1] at h ⊢
    by_cases h2 : a.left = 0
    · rw [if_pos h2] at h ⊢; cases h
      rw [if_pos]
      unfold endsP
      split <;> exact ha
    rw [if_neg h2] at h ⊢
    cases hb : bitsP s a.pos 8 with
    | error e => rw [hb] at h; cases h
    | ok v =>
    obtain ⟨c, p⟩ := v
    rw [hb] at h
    dsimp only at h ⊢
    by_cases c2 : a.out.length < most
    · rw [if_pos c2] at h; cases h
      dsimp only
      rw [List.length_append]
      simp only [List.length_cons, List.length_nil]
      by_cases c3 : a.out.length < k
      · rw [if_pos c3, if_pos (by omega)]
      · rw [if_neg c3, if_neg (by omega)]
    · rw [if_neg c2] at h; cases h
  rw [if_neg h1] at h ⊢; exact elemP_less h ha
/-- a run to the end, with less that may be told: it ends as before, or it is too much -/
theorem Run.less {s : List UInt8} {most k : Nat} {a b : St} {e : Int} (h : Run s most a b e) (he : e = 0) (hb : b.state = 3) (hp : a.pos ≤ 8 * s.length) (h3 : a.state ≤ 3) :
    a.out.length ≤ k → (b.out.length ≤ k → Run s k a b 0) ∧ (k < b.out.length → ∃ c, Run s k a c 93) := by
  induction h with
  | done h => exact fun ha => ⟨fun _ => .done h, fun hlt => by omega⟩
  | stop h1 _ => exact absurd hb h1
  | step h1 h2 h4 ih =>
    intro ha
    have hw := stepP_went h2 hp h3
    have hs := stepP_less h2 ha
    rename_i a' b' _
    have hw2 := h4.went hw.far hw.state
    obtain ⟨o, ho⟩ := hw2.2.2.1
    have hle : a'.out.length ≤ b'.out.length := by rw [ho, List.length_append]; omega
    by_cases c : a'.out.length ≤ k
    · rw [if_pos c] at hs
      obtain ⟨i1, i2⟩ := ih he hb hw.far hw.state c
      exact ⟨fun q => .step h1 hs (i1 q), fun q => let ⟨d, hd⟩ := i2 q; ⟨d, .step h1 hs hd⟩⟩
    · rw [if_neg c] at hs
      exact ⟨fun q => by omega, fun _ => ⟨_, .stop h1 hs⟩⟩
/-- a reader at the beginning -/
def start : St := { pos := 0, state := 0, last := false, left := 0, lit := [], dist := [], out := [] }
/-- where it ends the bits end with a byte -/
def Even (a : St) : Prop := a.state = 3 → a.pos % 8 = 0
theorem stepP_even {s : List UInt8} {most : Nat} {a b : St} (h : stepP s most a = .ok b) (ha : a.state ≠ 3) : Even b := by
  intro hb
  have ends : ∀ a : St, (endsP a).state = 3 → (endsP a).pos % 8 = 0 := by
    intro a q
    unfold endsP at q ⊢
    split
    · dsimp only; omega
    · rename_i c; rw [if_neg c] at q; cases q
  unfold stepP at h
  by_cases h0 : a.state = 0
  · rw [if_pos h0] at h
    unfold begP at h
    cases h1 : bitsP s a.pos 1 with
    | error e => rw [h1] at h; cases h
    | ok v =>
    obtain ⟨x, p1⟩ := v
    rw [h1] at h
    dsimp only at h
    cases h2 : bitsP s p1 2 with
    | error e => rw [h2] at h; cases h
    | ok v =>
    obtain ⟨k, p2⟩ := v
    rw [h2] at h
    have b2 := bitsP_ok h2
    dsimp only at h
    by_cases c0 : k = 0
    · rw [if_pos c0] at h
      cases h3 : bitsP s ((p2 + 7) / 8 * 8) 16 with
      | error e => rw [h3] at h; cases h
      | ok v =>
      obtain ⟨n, p3⟩ := v
      rw [h3] at h
      dsimp only at h
      cases h4 : bitsP s p3 16 with
      | error e => rw [h4] at h; cases h
      | ok v =>
      obtain ⟨m, p4⟩ := v
      rw [h4] at h
      dsimp only at h
      by_cases c1 : n + m = 65535
      · rw [if_pos c1] at h; cases h; cases hb
      · rw [if_neg c1] at h; cases h
    rw [if_neg c0] at h
    by_cases c1 : k = 1
    · rw [if_pos c1] at h; cases h; cases hb
    rw [if_neg c1] at h
    by_cases c2 : k = 2
    · rw [if_pos c2] at h
      obtain ⟨_, _, t3, _⟩ := tabsP_went h
      omega
    rw [if_neg c2] at h; cases h
  rw [if_neg h0] at h
  by_cases h1 : a.state = 1
  · rw [if_pos h1] at h
    by_cases h2 : a.left = 0
    · rw [if_pos h2] at h; cases h; exact ends _ hb
    rw [if_neg h2] at h
    cases hk : bitsP s a.pos 8 with
    | error e => rw [hk] at h; cases h
    | ok v =>
    obtain ⟨c, p⟩ := v
    rw [hk] at h
    dsimp only at h
    by_cases c2 : a.out.length < most
    · rw [if_pos c2] at h; cases h; dsimp only at hb; omega
    · rw [if_neg c2] at h; cases h
  rw [if_neg h1] at h
  unfold elemP at h
  cases hx : symP a.lit s a.pos with
  | error e => rw [hx] at h; cases h
  | ok v =>
  obtain ⟨x, p1⟩ := v
  rw [hx] at h
  dsimp only at h
  by_cases c1 : x < 256
  · rw [if_pos c1] at h
    by_cases c2 : a.out.length < most
    · rw [if_pos c2] at h; cases h; exact absurd hb ha
    · rw [if_neg c2] at h; cases h
  rw [if_neg c1] at h
  by_cases c2 : x = 256
  · rw [if_pos c2] at h; cases h; exact ends _ hb
  rw [if_neg c2] at h
  cases hn : lenP s x p1 with
  | error e => rw [hn] at h; cases h
  | ok v =>
  obtain ⟨n, p2⟩ := v
  rw [hn] at h
  dsimp only at h
  cases hy : symP a.dist s p2 with
  | error e => rw [hy] at h; cases h
  | ok v =>
  obtain ⟨y, p3⟩ := v
  rw [hy] at h
  dsimp only at h
  cases hd : dstP s y p3 with
  | error e => rw [hd] at h; cases h
  | ok v =>
  obtain ⟨d, p4⟩ := v
  rw [hd] at h
  dsimp only at h
  by_cases c3 : a.out.length < d
  · rw [if_pos c3] at h; cases h
  rw [if_neg c3] at h
  by_cases c4 : most < a.out.length + n
  · rw [if_pos c4] at h; cases h
  rw [if_neg c4] at h; cases h; exact absurd hb ha
theorem Run.even {s : List UInt8} {most : Nat} {a b : St} {e : Int} (h : Run s most a b e) (ha : Even a) (hp : a.pos ≤ 8 * s.length) (h3 : a.state ≤ 3) : Even b := by
  induction h with
  | done _ => exact ha
  | stop _ _ => exact ha
  | step h1 h2 _ ih =>
    have hw := stepP_went h2 hp h3
    exact ih (stepP_even h2 h1) hw.far hw.state
theorem start_even : Even start := fun h => by cases h
/-- a stream that ends, cut ahead of its end, has no bits any more -/
theorem Run.short {s : List UInt8} {most n : Nat} {b : St} (h : Run s most start b 0) (hb : b.state = 3) (hn : 8 * n < b.pos) : ∃ c, Run (s.take n) most start c 0 ∧ c.state ≠ 3 := by
  obtain ⟨c, e, hc⟩ := run_exists (s.take n) most start (Nat.zero_le _) (by simp [start])
  have happ : s.take n ++ s.drop n = s := List.take_append_drop n s
  by_cases he : e = 0
  · subst he
    refine ⟨c, hc, fun h3 => ?_⟩
    have k := hc.ended (s.drop n) h3
    rw [happ] at k
    have hd := (k.det h).1
    have hf := (hc.went (Nat.zero_le _) (by simp [start])).1
    rw [List.length_take] at hf
    subst hd
    omega
  · have k := hc.wrong (s.drop n) he
    rw [happ] at k
    exact absurd (k.det h).2 he
theorem Run.moved {s : List UInt8} {most : Nat} {b : St} {e : Int} (h : Run s most start b e) (hb : b.state = 3) : 0 < b.pos := by
  cases h with
  | done h => cases h
  | stop h1 _ => exact absurd hb (by simp [start])
  | step h1 h2 h4 =>
    have hw := stepP_went h2 (Nat.zero_le _) (by simp [start])
    have hw2 := h4.went hw.far hw.state
    have hg := hw.goes
    have e0 : start.pos = 0 := rfl
    have e1 : start.state = 0 := rfl
    rw [e0, e1] at hg
    simp at hg
    split at hg <;> omega
/-! runs in pieces -/
/-- a reader that has come to b by these bytes, without anything wrong -/
theorem Run.next {full t : List UInt8} {most : Nat} {a b c : St} {e : Int} {k : Nat} (h : Run full most start b 0) (hb : b = a.up k) (hk : k ≤ full.length) (h2 : Run (full.drop k ++ t) most a c e) : Run (full ++ t) most start (c.up k) e := by
  have e0 : full.take k ++ (full.drop k ++ t) = full ++ t := by rw [← List.append_assoc, List.take_append_drop]
  have hl : (full.take k).length = k := by rw [List.length_take]; omega
  have h3 := h2.pre (full.take k)
  rw [hl, e0, ← hb] at h3
  exact h.then t rfl h3
end Go.Proofs.Ytcjcmlnbchmnnaa.Im
/-! ### ImStores -/
namespace Go.Proofs.Ytcjcmlnbchmnnaa.Im

theorem num_byte (s : List UInt8) (k : Nat) : ∀ n, n ≤ 8 → num s (8 * k) n = (s.getD k 0).toNat % 2 ^ n
  | 0, _ => by simp [num, Nat.mod_one]
  | n + 1, h => by
    rw [num, num_byte s k n (by omega), Nat.mod_pow_succ]
    unfold Hm.bitOf
    rw [show (8 * k + n) / 8 = k by omega, show (8 * k + n) % 8 = n by omega, Nat.mul_comm]
theorem num_add (s : List UInt8) (p m : Nat) : ∀ n, num s p (m + n) = num s p m + 2 ^ m * num s (p + m) n
  | 0 => by simp [num]
  | n + 1 => by
    rw [← Nat.add_assoc, num, num_add s p m n, num, Nat.mul_add, Nat.add_assoc, Nat.add_assoc, Nat.pow_add]
    congr 2
    rw [Nat.mul_comm (2 ^ m) (2 ^ n), ← Nat.mul_assoc, Nat.mul_comm]
theorem num_byte8 (s : List UInt8) (k : Nat) : num s (8 * k) 8 = (s.getD k 0).toNat := by
  rw [num_byte s k 8 (by omega)]; exact Nat.mod_eq_of_lt (s.getD k 0).toNat_lt
theorem num_byte16 (s : List UInt8) (k : Nat) : num s (8 * k) 16 = (s.getD k 0).toNat + 256 * (s.getD (k + 1) 0).toNat := by
  rw [show 16 = 8 + 8 from rfl, num_add, num_byte8, show 8 * k + 8 = 8 * (k + 1) by omega, num_byte8]
/-- a block of the kind 0 -/
def blk (last : Bool) (c : List UInt8) : List UInt8 := (if last then 1 else 0) :: UInt8.ofNat c.length :: UInt8.ofNat (c.length / 256) :: UInt8.ofNat (255 - c.length % 256) :: UInt8.ofNat (255 - c.length / 256) :: c
theorem blk_length (last : Bool) (c : List UInt8) : (blk last c).length = 5 + c.length := by unfold blk; simp; omega
theorem of_nat (n : Nat) : (UInt8.ofNat n).toNat = n % 256 := UInt8.toNat_ofNat'
theorem blk_begins (last : Bool) (c t : List UInt8) (a : St) (h : c.length ≤ 65535) (ha : a.pos = 0) : begP (blk last c ++ t) a = .ok { a with pos := 40, state := 1, last := last, left := c.length } := by
  have hl : 5 ≤ (blk last c ++ t).length := by rw [List.length_append, blk_length]; omega
  have e0 : (blk last c ++ t).getD 0 0 = if last then 1 else 0 := rfl
  have e1 : (blk last c ++ t).getD 1 0 = UInt8.ofNat c.length := rfl
  have e2 : (blk last c ++ t).getD 2 0 = UInt8.ofNat (c.length / 256) := rfl
  have e3 : (blk last c ++ t).getD 3 0 = UInt8.ofNat (255 - c.length % 256) := rfl
  have e4 : (blk last c ++ t).getD 4 0 = UInt8.ofNat (255 - c.length / 256) := rfl
  generalize blk last c ++ t = s at *
  have n1 : num s 0 1 = if last then 1 else 0 := by
    have := num_byte s 0 1 (by omega)
    rw [Nat.mul_zero] at this
    rw [this, e0]
    cases last <;> rfl
  have n2 : num s 1 2 = 0 := by
    have h3 := num_byte s 0 3 (by omega)
    rw [Nat.mul_zero] at h3
    have h4 := num_add s 0 1 2
    rw [show 1 + 2 = 3 from rfl, h3, n1, e0, Nat.zero_add] at h4
    cases last
    · simp at h4; omega
    · simp at h4; omega
  have n3 : num s 8 16 = c.length := by
    have := num_byte16 s 1
    rw [Nat.mul_one] at this
    rw [this, e1, e2, of_nat, of_nat]; omega
  have n4 : num s 24 16 = 65535 - c.length := by
    have := num_byte16 s 3
    rw [show 8 * 3 = 24 from rfl] at this
    rw [this, e3, e4, of_nat, of_nat]; omega
  unfold begP
  have b1 : bitsP s a.pos 1 = .ok (if last then 1 else 0, 1) := by unfold bitsP; rw [ha, if_pos (by omega), n1]
  have b2 : bitsP s 1 2 = .ok (0, 3) := by unfold bitsP; rw [if_pos (by omega), n2]
  have b3 : bitsP s 8 16 = .ok (c.length, 24) := by unfold bitsP; rw [if_pos (by omega), n3]
  have b4 : bitsP s 24 16 = .ok (65535 - c.length, 40) := by unfold bitsP; rw [if_pos (by omega), n4]
  rw [b1]
  dsimp only
  rw [b2]
  dsimp only
  rw [if_pos rfl, show (3 + 7) / 8 * 8 = 8 from rfl, b3]
  dsimp only
  rw [b4]
  dsimp only
  rw [if_pos (by omega)]
  cases last <;> rfl
/-- the bytes of a block, one by one -/
theorem stored_run (u t : List UInt8) (most : Nat) : ∀ (c : List UInt8) (a : St) (b : St) (e : Int), a.state = 1 → a.left = c.length → a.pos = 8 * u.length → a.out.length + c.length ≤ most →
    Run (u ++ c ++ t) most { a with pos := 8 * (u.length + c.length), left := 0, out := a.out ++ c } b e → Run (u ++ c ++ t) most a b e := by
  intro c
  induction c generalizing u with
  | nil =>
    intro a b e h1 h2 h3 _ hr
    obtain ⟨pos, state, last, left, lit, dist, out⟩ := a
    dsimp only at h1 h2 h3 hr
    rw [List.append_nil out] at hr
    simp only [List.length_nil] at h2
    subst h1 h2 h3
    exact hr
  | cons x c ih =>
    intro a b e h1 h2 h3 h4 hr
    have hs : stepP (u ++ x :: c ++ t) most a = .ok { a with pos := 8 * (u ++ [x]).length, left := c.length, out := a.out ++ [x] } := by
      unfold stepP
      rw [if_neg (by omega), if_pos h1, if_neg (by rw [h2]; simp)]
      have hb : bitsP (u ++ x :: c ++ t) a.pos 8 = .ok (x.toNat, 8 * (u ++ [x]).length) := by
        unfold bitsP
        rw [h3, if_pos (by simp; omega), num_byte8]
        have : (u ++ x :: c ++ t).getD u.length 0 = x := by
          rw [List.append_assoc, List.getD_eq_getElem?_getD, List.getElem?_append_right (Nat.le_refl _), Nat.sub_self]; rfl
        rw [this]
        simp; omega
      rw [hb]
      dsimp only
      simp only [List.length_cons] at h4
      rw [if_pos (by omega), h2]
      simp
    refine .step (by omega) hs ?_
    have e1 : u ++ x :: c ++ t = u ++ [x] ++ c ++ t := by simp
    rw [e1] at hr ⊢
    refine ih (u ++ [x]) _ b e h1 rfl rfl (by simp at h4 ⊢; omega) ?_
    have e2 : 8 * ((u ++ [x]).length + c.length) = 8 * (u.length + (x :: c).length) := by simp; omega
    have e3 : a.out ++ [x] ++ c = a.out ++ x :: c := by simp
    dsimp only
    rw [e2, e3]
    exact hr
theorem blk_run (u t c : List UInt8) (last : Bool) (most : Nat) (a b : St) (e : Int) (h0 : a.state = 0) (hp : a.pos = 8 * u.length) (hc : c.length ≤ 65535) (hm : a.out.length + c.length ≤ most)
    (hr : Run (u ++ (blk last c ++ t)) most { a with pos := 8 * (u ++ blk last c).length, state := if last then 3 else 0, last := last, left := 0, out := a.out ++ c } b e) : Run (u ++ (blk last c ++ t)) most a b e := by
  have hb := begP_pre u (blk last c ++ t) { a with pos := 0 }
  have eu : St.up u.length { a with pos := 0 } = a := by
    obtain ⟨pos, state, last, left, lit, dist, out⟩ := a
    dsimp only at hp
    subst hp
    rfl
  rw [eu, blk_begins last c t _ hc rfl] at hb
  have hs : stepP (u ++ (blk last c ++ t)) most a = .ok { a with pos := 8 * (u.length + 5), state := 1, last := last, left := c.length } := by
    unfold stepP
    rw [if_pos h0, hb]
    simp only [lift, St.up]
    congr 2
  refine .step (by omega) hs ?_
  have hd : ∃ h : List UInt8, blk last c = h ++ c ∧ h.length = 5 := ⟨(blk last c).take 5, rfl, rfl⟩
  obtain ⟨h, e1, e2⟩ := hd
  have e3 : u ++ (blk last c ++ t) = (u ++ h) ++ c ++ t := by rw [e1]; simp
  have e4 : (u ++ blk last c).length = (u ++ h).length + c.length := by rw [e1]; simp; omega
  rw [e3] at hr ⊢
  refine stored_run (u ++ h) t most c _ b e rfl rfl (by dsimp only; rw [List.length_append, e2]) (by dsimp only; exact hm) ?_
  dsimp only
  refine .step (by dsimp only; omega) (a' := { a with pos := 8 * (u ++ blk last c).length, state := if last then 3 else 0, last := last, left := 0, out := a.out ++ c }) ?_ hr
  unfold stepP
  rw [if_neg (by dsimp only; omega), if_pos rfl, if_pos rfl]
  unfold endsP
  rw [e4]
  cases last with
  | false => rfl
  | true =>
    simp only [if_true]
    congr 2
    omega
/-- blocks, the last one marked -/
def enc : List (List UInt8) → List UInt8
  | [] => []
  | [c] => blk true c
  | c :: cs => blk false c ++ enc cs
theorem enc_run (most : Nat) (t : List UInt8) : ∀ (cs : List (List UInt8)) (u : List UInt8) (a : St), cs ≠ [] → a.state = 0 → a.pos = 8 * u.length → (∀ c ∈ cs, c.length ≤ 65535) → a.out.length + cs.flatten.length ≤ most →
    Run (u ++ (enc cs ++ t)) most a { a with pos := 8 * (u ++ enc cs).length, state := 3, last := true, left := 0, out := a.out ++ cs.flatten } 0
  | [], _, _, h, _, _, _, _ => absurd rfl h
  | [c], u, a, _, h0, hp, hc, hm => by
    have e1 : [c].flatten = c := by simp
    rw [e1] at hm ⊢
    refine blk_run u t c true most a _ 0 h0 hp (hc c (by simp)) hm (.done rfl)
  | c :: d :: cs, u, a, _, h0, hp, hc, hm => by
    have hm' : a.out.length + (c.length + (d :: cs).flatten.length) ≤ most := by
      rw [List.flatten_cons, List.length_append] at hm; exact hm
    have e0 : enc (c :: d :: cs) = blk false c ++ enc (d :: cs) := rfl
    rw [e0, List.append_assoc]
    refine blk_run u (enc (d :: cs) ++ t) c false most a _ 0 h0 hp (hc c (by simp)) (by omega) ?_
    have ih := enc_run most t (d :: cs) (u ++ blk false c) { a with pos := 8 * (u ++ blk false c).length, state := 0, last := false, left := 0, out := a.out ++ c } (by simp) rfl rfl (fun x hx => hc x (List.mem_cons_of_mem _ hx)) (by dsimp only; rw [List.length_append]; omega)
    dsimp only at ih
    rw [List.append_assoc] at ih
    rw [List.flatten_cons, ← List.append_assoc a.out]
    simp only [List.append_assoc] at ih ⊢
    exact ih
end Go.Proofs.Ytcjcmlnbchmnnaa.Im
/-! ### ImFixed -/
namespace Go.Proofs.Ytcjcmlnbchmnnaa.Im

/-- a code's bits, the highest first -/
def codeBits (c L : Nat) : List Nat := (List.range L).map fun k => c / 2 ^ (L - 1 - k) % 2
theorem codeBits_length (c L : Nat) : (codeBits c L).length = L := by simp [codeBits]
theorem codeBits_get {c L k : Nat} (h : k < L) : (codeBits c L)[k]? = some (c / 2 ^ (L - 1 - k) % 2) := by simp [codeBits, h]
/-- these bits stand there -/
def At (s : List UInt8) (p : Nat) (bits : List Nat) : Prop := ∀ k x, bits[k]? = some x → Hm.bitOf s (p + k) = x ∧ (p + k) / 8 < s.length
theorem At.nil (s : List UInt8) (p : Nat) : At s p [] := fun k x h => by simp at h
theorem At.left {s : List UInt8} {p : Nat} {a b : List Nat} (h : At s p (a ++ b)) : At s p a := fun k x hk => h k x (by rw [List.getElem?_append_left (List.getElem?_eq_some_iff.1 hk).1]; exact hk)
theorem At.right {s : List UInt8} {p : Nat} {a b : List Nat} (h : At s p (a ++ b)) : At s (p + a.length) b := fun k x hk => by
  have := h (a.length + k) x (by rw [List.getElem?_append_right (by omega), Nat.add_sub_cancel_left]; exact hk)
  rw [Nat.add_assoc]; exact this
theorem pv_at {s : List UInt8} {p c L : Nat} (h : At s p (codeBits c L)) (hc : c < 2 ^ L) : ∀ n, n ≤ L → Hm.pv s p n = c / 2 ^ (L - n)
  | 0, _ => by rw [Nat.sub_zero, Nat.div_eq_of_lt hc]; rfl
  | n + 1, hn => by
    have ih := pv_at h hc n (by omega)
    obtain ⟨hb, _⟩ := h n _ (codeBits_get (by omega))
    rw [Hm.pv, ih, hb]
    have e : L - n = (L - (n + 1)) + 1 := by omega
    have e2 : L - 1 - n = L - (n + 1) := by omega
    rw [e2, e, Nat.pow_succ, ← Nat.div_div_eq_div_mul]
    omega
theorem sym_at {ns : List Nat} {s : List UInt8} {p i : Nat} (hi : 1 ≤ Hm.len ns i) (hs : Hm.Short ns) (hc : Hm.code ns i < 2 ^ Hm.len ns i) (h : At s p (codeBits (Hm.code ns i) (Hm.len ns i))) : symP ns s p = .ok (i, p + Hm.len ns i) := by
  have hv := pv_at h hc (Hm.len ns i) (Nat.le_refl _)
  rw [Nat.sub_self, Nat.pow_zero, Nat.div_one] at hv
  have hr := Hm.read_follow hi hs hv (fun j hj => (h j _ (codeBits_get hj)).2)
  unfold symP
  rw [hr]
  simp only [if_true]
  congr 2
theorem At.bits {s : List UInt8} {p : Nat} {bits : List Nat} (h : At s p bits) (hn : bits ≠ []) : p + bits.length ≤ 8 * s.length := by
  have hl : 0 < bits.length := List.length_pos_iff.2 hn
  have := (h (bits.length - 1) _ (List.getElem?_eq_getElem (by omega))).2
  omega
/-- the bits of a symbol of the first table -/
def litBits (x : Nat) : List Nat := codeBits (Hm.code fixLit x) (Hm.len fixLit x)
theorem fixLit_code : ∀ x, x < 288 → Hm.code fixLit x = if x < 144 then 48 + x else if x < 256 then 400 + (x - 144) else if x < 280 then x - 256 else 192 + (x - 280) := by decide +kernel
theorem fixLit_len : ∀ x, x < 288 → Hm.len fixLit x = if x < 144 then 8 else if x < 256 then 9 else if x < 280 then 7 else 8 := by decide +kernel
theorem fixDist_code : ∀ x, x < 32 → Hm.code fixDist x = x ∧ Hm.len fixDist x = 5 := by decide +kernel
theorem fixLit_bound {x : Nat} (h : x < 288) : 1 ≤ Hm.len fixLit x ∧ Hm.code fixLit x < 2 ^ Hm.len fixLit x := by
  rw [fixLit_code x h, fixLit_len x h]
  split
  · omega
  · split
    · omega
    · split <;> omega
end Go.Proofs.Ytcjcmlnbchmnnaa.Im
