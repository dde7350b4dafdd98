/- Plain mathematics of layer 9: a step goes on, and what it leaves as it was; every run ends (no program in sight). -/
import Derived.Test.YtcjcmlnbchmnnaaIRow
namespace Go.Proofs.Ytcjcmlnbchmnnaa.Im

theorem lensP_mono {ns : List Nat} {s : List UInt8} {all : Nat} : ∀ f pos l l' p', lensP ns s all f pos l = .ok (l', p') → pos ≤ p'
  | 0, _, _, _, _, h => by cases h
  | f + 1, pos, l, l', p', h => by
    unfold lensP at h
    by_cases h0 : l.length < all
    · rw [if_pos h0] at h
      cases hx : symP ns s pos with
      | error e => rw [hx] at h; cases h
      | ok v =>
        obtain ⟨x, p⟩ := v
        rw [hx] at h
        obtain ⟨x1, x2, x3, _⟩ := symP_ok hx
        dsimp only at h
        have key : ∀ (m b : Nat) (v : Nat), (match bitsP s p b with
            | .error e => (.error e : Except Int (List Nat × Nat))
            | .ok (k, p') => if l.length + (m + k) ≤ all then lensP ns s all f p' (l ++ List.replicate (m + k) v) else .error 90) = .ok (l', p') → pos ≤ p' := by
          intro m b v hh
          cases hk : bitsP s p b with
          | error e => rw [hk] at hh; cases hh
          | ok y =>
            obtain ⟨k, q⟩ := y
            rw [hk] at hh
            dsimp only at hh
            have hb := bitsP_ok hk
            by_cases h3 : l.length + (m + k) ≤ all
            · rw [if_pos h3] at hh
              have := lensP_mono f _ _ _ _ hh
              omega
            · rw [if_neg h3] at hh; cases hh
        by_cases h1 : x = 16
        · rw [if_pos h1] at h
          by_cases h2 : l = []
          · rw [if_pos h2] at h; cases h
          · rw [if_neg h2] at h; exact key 3 2 _ h
        rw [if_neg h1] at h
        by_cases h1 : x = 17
        · rw [if_pos h1] at h; exact key 3 3 0 h
        rw [if_neg h1] at h
        by_cases h1 : x = 18
        · rw [if_pos h1] at h; exact key 11 7 0 h
        rw [if_neg h1] at h
        have := lensP_mono f _ _ _ _ h
        omega
    · rw [if_neg h0] at h; cases h; exact Nat.le_refl _
theorem lensP_pos {ns : List Nat} {s : List UInt8} {all : Nat} : ∀ f pos l l' p', lensP ns s all f pos l = .ok (l', p') → pos ≤ 8 * s.length → p' ≤ 8 * s.length
  | 0, _, _, _, _, h, _ => by cases h
  | f + 1, pos, l, l', p', h, hp => by
    unfold lensP at h
    by_cases h0 : l.length < all
    · rw [if_pos h0] at h
      cases hx : symP ns s pos with
      | error e => rw [hx] at h; cases h
      | ok v =>
        obtain ⟨x, p⟩ := v
        rw [hx] at h
        obtain ⟨x1, x2, x3, _⟩ := symP_ok hx
        dsimp only at h
        have key : ∀ (m b : Nat) (v : Nat), (match bitsP s p b with
            | .error e => (.error e : Except Int (List Nat × Nat))
            | .ok (k, p') => if l.length + (m + k) ≤ all then lensP ns s all f p' (l ++ List.replicate (m + k) v) else .error 90) = .ok (l', p') → p' ≤ 8 * s.length := by
          intro m b v hh
          cases hk : bitsP s p b with
          | error e => rw [hk] at hh; cases hh
          | ok y =>
            obtain ⟨k, q⟩ := y
            rw [hk] at hh
            dsimp only at hh
            have hb := bitsP_ok hk
            by_cases h3 : l.length + (m + k) ≤ all
            · rw [if_pos h3] at hh
              exact lensP_pos f _ _ _ _ hh hb.2.2
            · rw [if_neg h3] at hh; cases hh
        by_cases h1 : x = 16
        · rw [if_pos h1] at h
          by_cases h2 : l = []
          · rw [if_pos h2] at h; cases h
          · rw [if_neg h2] at h; exact key 3 2 _ h
        rw [if_neg h1] at h
        by_cases h1 : x = 17
        · rw [if_pos h1] at h; exact key 3 3 0 h
        rw [if_neg h1] at h
        by_cases h1 : x = 18
        · rw [if_pos h1] at h; exact key 11 7 0 h
        rw [if_neg h1] at h
        exact lensP_pos f _ _ _ _ h x3
    · rw [if_neg h0] at h; cases h; exact hp
theorem ownP_pos {s : List UInt8} : ∀ (is own : List Nat) (pos : Nat) (own' : List Nat) (p' : Nat), ownP s is own pos = .ok (own', p') → pos ≤ p' ∧ (pos ≤ 8 * s.length → p' ≤ 8 * s.length)
  | [], _, _, _, _, h => by cases h; exact ⟨Nat.le_refl _, id⟩
  | i :: is, own, pos, own', p', h => by
    unfold ownP at h
    cases hk : bitsP s pos 3 with
    | error e => rw [hk] at h; cases h
    | ok v =>
      obtain ⟨x, p⟩ := v
      rw [hk] at h
      have hb := bitsP_ok hk
      have := ownP_pos is _ p _ _ h
      exact ⟨by omega, fun _ => this.2 hb.2.2⟩
/-- what a step does not change, and how far it goes -/
structure Went (s : List UInt8) (most : Nat) (a b : St) : Prop where
  far : b.pos ≤ 8 * s.length
  goes : 2 * a.pos + (if b.state = 1 then 1 else 0) < 2 * b.pos + (if a.state = 1 then 1 else 0)
  out : ∃ o, b.out = a.out ++ o
  most_ : a.out.length ≤ most → b.out.length ≤ most
  left : a.left ≤ 65535 → b.left ≤ 65535
  state : b.state ≤ 3
theorem elemP_went {s : List UInt8} {most : Nat} {a b : St} (h : elemP s most a = .ok b) (h1 : a.state ≠ 1) (h3 : a.state ≤ 3) : Went s most a b := by
  unfold elemP at h
  cases hx : symP a.lit s a.pos with
  | error e => rw [hx] at h; cases h
  | ok v =>
  obtain ⟨x, p1⟩ := v
  rw [hx] at h
  dsimp only at h
  obtain ⟨x1, x2, x3, _⟩ := symP_ok hx
  by_cases c1 : x < 256
  · rw [if_pos c1] at h
    by_cases c2 : a.out.length < most
    · rw [if_pos c2] at h; cases h
      exact ⟨x3, by simp only [if_neg h1]; omega, ⟨_, rfl⟩, fun _ => by simp only [List.length_append, List.length_cons, List.length_nil]; omega, id, h3⟩
    · rw [if_neg c2] at h; cases h
  rw [if_neg c1] at h
  by_cases c2 : x = 256
  · rw [if_pos c2] at h; cases h
    unfold endsP
    dsimp only
    split
    · exact ⟨by dsimp only; omega, by simp only [if_neg h1]; simp; omega, ⟨[], by simp⟩, id, id, by simp⟩
    · exact ⟨x3, by simp only [if_neg h1]; simp; omega, ⟨[], by simp⟩, id, id, by simp⟩
  rw [if_neg c2] at h
  cases hn : lenP s x p1 with
  | error e => rw [hn] at h; cases h
  | ok v =>
  obtain ⟨n, p2⟩ := v
  rw [hn] at h
  dsimp only at h
  obtain ⟨n1, n2, n3⟩ := lenP_ok hn (by omega)
  cases hy : symP a.dist s p2 with
  | error e => rw [hy] at h; cases h
  | ok v =>
  obtain ⟨y, p3⟩ := v
  rw [hy] at h
  dsimp only at h
  obtain ⟨y1, y2, y3, _⟩ := symP_ok hy
  cases hd : dstP s y p3 with
  | error e => rw [hd] at h; cases h
  | ok v =>
  obtain ⟨d, p4⟩ := v
  rw [hd] at h
  dsimp only at h
  obtain ⟨d1, d2, d3, d4⟩ := dstP_ok hd
  by_cases c3 : a.out.length < d
  · rw [if_pos c3] at h; cases h
  rw [if_neg c3] at h
  by_cases c4 : most < a.out.length + n
  · rw [if_pos c4] at h; cases h
  rw [if_neg c4] at h; cases h
  refine ⟨d4, by simp only [if_neg h1]; omega, ?_, fun _ => by simp only [copyP_length]; omega, id, h3⟩
  clear hd hy hn hx c3 c4
  dsimp only
  induction n with
  | zero => exact ⟨[], by simp [copyP]⟩
  | succ n ih => obtain ⟨o, ho⟩ := ih (by omega); exact ⟨_, by rw [copyP, ho, List.append_assoc]⟩
theorem tabsP_went {s : List UInt8} {a b : St} (h : tabsP s a = .ok b) : b.pos ≤ 8 * s.length ∧ a.pos ≤ b.pos ∧ b.state = 2 ∧ b.out = a.out ∧ b.left = a.left ∧ b.last = a.last := by
  unfold tabsP at h
  cases h1 : bitsP s a.pos 5 with
  | error e => rw [h1] at h; cases h
  | ok v =>
  obtain ⟨hl, p1⟩ := v
  rw [h1] at h
  have b1 := bitsP_ok h1
  dsimp only at h
  cases h2 : bitsP s p1 5 with
  | error e => rw [h2] at h; cases h
  | ok v =>
  obtain ⟨hd, p2⟩ := v
  rw [h2] at h
  have b2 := bitsP_ok h2
  dsimp only at h
  cases h3 : bitsP s p2 4 with
  | error e => rw [h3] at h; cases h
  | ok v =>
  obtain ⟨hc, p3⟩ := v
  rw [h3] at h
  have b3 := bitsP_ok h3
  dsimp only at h
  by_cases c1 : ¬ (hl ≤ 29 ∧ hd ≤ 29)
  · rw [if_pos c1] at h; cases h
  rw [if_neg c1] at h
  cases h4 : ownP s (order.take (hc + 4)) (List.replicate 19 0) p3 with
  | error e => rw [h4] at h; cases h
  | ok v =>
  obtain ⟨own, p4⟩ := v
  rw [h4] at h
  have b4 := ownP_pos _ _ _ _ _ h4
  dsimp only at h
  by_cases c2 : Hm.err own ≠ 0
  · rw [if_pos c2] at h; cases h
  rw [if_neg c2] at h
  cases h5 : lensP own s (hl + 257 + hd + 1) (hl + 257 + hd + 2) p4 [] with
  | error e => rw [h5] at h; cases h
  | ok v =>
  obtain ⟨l, p5⟩ := v
  rw [h5] at h
  have b5 := lensP_mono _ _ _ _ _ h5
  have b6 := lensP_pos _ _ _ _ _ h5 (b4.2 b3.2.2)
  dsimp only at h
  by_cases c3 : l.getD 256 0 = 0
  · rw [if_pos c3] at h; cases h
  rw [if_neg c3] at h
  by_cases c4 : Hm.err (l.take (hl + 257)) ≠ 0 ∨ Hm.err (l.drop (hl + 257)) ≠ 0
  · rw [if_pos c4] at h; cases h
  rw [if_neg c4] at h
  cases h
  exact ⟨b6, by dsimp only; omega, rfl, rfl, rfl, rfl⟩
theorem begP_went {s : List UInt8} {most : Nat} {a b : St} (h : begP s a = .ok b) (h0 : a.state = 0) : Went s most a b := by
  unfold begP at h
  cases h1 : bitsP s a.pos 1 with
  | error e => rw [h1] at h; cases h
  | ok v =>
  obtain ⟨x, p1⟩ := v
  rw [h1] at h
  have b1 := bitsP_ok h1
  dsimp only at h
  cases h2 : bitsP s p1 2 with
  | error e => rw [h2] at h; cases h
  | ok v =>
  obtain ⟨k, p2⟩ := v
  rw [h2] at h
  have b2 := bitsP_ok h2
  dsimp only at h
  by_cases c0 : k = 0
  · rw [if_pos c0] at h
    cases h3 : bitsP s ((p2 + 7) / 8 * 8) 16 with
    | error e => rw [h3] at h; cases h
    | ok v =>
    obtain ⟨n, p3⟩ := v
    rw [h3] at h
    have b3 := bitsP_ok h3
    dsimp only at h
    cases h4 : bitsP s p3 16 with
    | error e => rw [h4] at h; cases h
    | ok v =>
    obtain ⟨m, p4⟩ := v
    rw [h4] at h
    have b4 := bitsP_ok h4
    dsimp only at h
    by_cases c1 : n + m = 65535
    · rw [if_pos c1] at h; cases h
      exact ⟨b4.2.2, by simp [h0]; omega, ⟨[], by simp⟩, id, fun _ => by dsimp only; omega, by simp⟩
    · rw [if_neg c1] at h; cases h
  rw [if_neg c0] at h
  by_cases c1 : k = 1
  · rw [if_pos c1] at h; cases h
    exact ⟨b2.2.2, by simp [h0]; omega, ⟨[], by simp⟩, id, id, by simp⟩
  rw [if_neg c1] at h
  by_cases c2 : k = 2
  · rw [if_pos c2] at h
    obtain ⟨t1, t2, t3, t4, t5, t6⟩ := tabsP_went h
    dsimp only at t2 t4 t5
    refine ⟨t1, by rw [t3]; simp [h0]; omega, ⟨[], by rw [t4]; simp⟩, by rw [t4]; exact id, by rw [t5]; exact id, by rw [t3]; simp⟩
  rw [if_neg c2] at h; cases h
theorem stepP_went {s : List UInt8} {most : Nat} {a b : St} (h : stepP s most a = .ok b) (hp : a.pos ≤ 8 * s.length) (h3 : a.state ≤ 3) : Went s most a b := by
  unfold stepP at h
  by_cases h0 : a.state = 0
  · rw [if_pos h0] at h; exact begP_went h h0
  rw [if_neg h0] at h
  by_cases h1 : a.state = 1
  · rw [if_pos h1] at h
    by_cases h2 : a.left = 0
    · rw [if_pos h2] at h; cases h
      unfold endsP
      split
      · exact ⟨by dsimp only; omega, by simp [h1]; omega, ⟨[], by simp⟩, id, id, by simp⟩
      · exact ⟨hp, by simp [h1], ⟨[], by simp⟩, id, id, by simp⟩
    rw [if_neg h2] at h
    cases hk : bitsP s a.pos 8 with
    | error e => rw [hk] at h; cases h
    | ok v =>
    obtain ⟨c, p⟩ := v
    rw [hk] at h
    have hb := bitsP_ok hk
    dsimp only at h
    by_cases c2 : a.out.length < most
    · rw [if_pos c2] at h; cases h
      exact ⟨hb.2.2, by simp [h1]; omega, ⟨_, rfl⟩, fun _ => by simp only [List.length_append, List.length_cons, List.length_nil]; omega, fun _ => by dsimp only; omega, h3⟩
    · rw [if_neg c2] at h; cases h
  rw [if_neg h1] at h; exact elemP_went h h1 h3
/-- how much a run may still do -/
def gauge (s : List UInt8) (a : St) : Nat := 2 * (8 * s.length) - 2 * a.pos + (if a.state = 1 then 1 else 0)
theorem Went.less {s : List UInt8} {most : Nat} {a b : St} (h : Went s most a b) (hp : a.pos ≤ 8 * s.length) : gauge s b < gauge s a := by
  have h1 := h.goes
  have h2 := h.far
  unfold gauge
  generalize (if b.state = 1 then 1 else 0) = x at *
  generalize (if a.state = 1 then 1 else 0) = y at *
  omega
theorem runs (s : List UInt8) (most : Nat) : ∀ g a, gauge s a ≤ g → a.pos ≤ 8 * s.length → a.state ≤ 3 → ∃ b e, Run s most a b e := by
  intro g
  induction g with
  | zero =>
    intro a hg hp h3
    by_cases h : a.state = 3
    · exact ⟨a, 0, .done h⟩
    · cases hs : stepP s most a with
      | error e => exact ⟨a, e, .stop h hs⟩
      | ok b => have := (stepP_went hs hp h3).less hp; omega
  | succ g ih =>
    intro a hg hp h3
    by_cases h : a.state = 3
    · exact ⟨a, 0, .done h⟩
    · cases hs : stepP s most a with
      | error e => exact ⟨a, e, .stop h hs⟩
      | ok b =>
        have hw := stepP_went hs hp h3
        have hl := hw.less hp
        obtain ⟨c, e, hr⟩ := ih b (by omega) hw.far hw.state
        exact ⟨c, e, .step h hs hr⟩
theorem run_exists (s : List UInt8) (most : Nat) (a : St) (hp : a.pos ≤ 8 * s.length) (h3 : a.state ≤ 3) : ∃ b e, Run s most a b e := runs s most _ a (Nat.le_refl _) hp h3
theorem Run.went {s : List UInt8} {most : Nat} {a b : St} {e : Int} (h : Run s most a b e) (hp : a.pos ≤ 8 * s.length) (h3 : a.state ≤ 3) :
    b.pos ≤ 8 * s.length ∧ a.pos ≤ b.pos ∧ (∃ o, b.out = a.out ++ o) ∧ (a.out.length ≤ most → b.out.length ≤ most) ∧ (a.left ≤ 65535 → b.left ≤ 65535) ∧ b.state ≤ 3 := by
  induction h with
  | done _ => exact ⟨hp, Nat.le_refl _, ⟨[], by simp⟩, id, id, h3⟩
  | stop _ _ => exact ⟨hp, Nat.le_refl _, ⟨[], by simp⟩, id, id, h3⟩
  | step h1 h2 _ ih =>
    have hw := stepP_went h2 hp h3
    obtain ⟨i1, i2, ⟨o, io⟩, i4, i5, i6⟩ := ih hw.far hw.state
    obtain ⟨o0, io0⟩ := hw.out
    have hg := hw.goes
    refine ⟨i1, ?_, ⟨o0 ++ o, by rw [io, io0, List.append_assoc]⟩, fun q => i4 (hw.most_ q), fun q => i5 (hw.left q), i6⟩
    split at hg <;> split at hg <;> omega
end Go.Proofs.Ytcjcmlnbchmnnaa.Im
