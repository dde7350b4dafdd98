/- (*inflate.Reader).element: its contract by the model. -/
import Derived.Test.YtcjcmlnbchmnnaaIElem2
import Derived.Test.YtcjcmlnbchmnnaaIElem3
import Derived.Test.YtcjcmlnbchmnnaaPl
namespace Go.Proofs.Ytcjcmlnbchmnnaa
open Go.RowKit

/-- .. and each of its cells is one cell -/
structure StOne (w : World) (R B : Nat) (r : Rd) (tb : List UInt8) (most : Nat) (a : Im.St) : Prop extends StAt w R B r tb most a where
  one : r.lit.oneCell' = true ∧ r.dist.oneCell' = true
/-- a step of the model: the Reader has made it, or it stops -/
def Steps (R B : Nat) (r : Rd) (tb : List UInt8) (most : Nat) (w : World) (x : Except Int Im.St) (o : Ending) (w' : World) : Prop :=
  match x with
  | .ok a' => o = .returned (.tuple #[]) ∧ (∃ r', StOne w' R B r' tb most a' ∧ (r'.s, r'.back) = (r.s, r.back)) ∧ Grew R B w w'
  | .error e => o = stopped e ∧ Fr (· = R) w w'
theorem u8_nat (x : Nat) (h : x < 256) : ((UInt8.ofNat x).toNat : Int) = (x : Int) := by rw [UInt8.toNat_ofNat']; congr 1; exact Nat.mod_eq_of_lt h
/-- only the Reader's plain cells have changed -/
theorem StOne.to {w w' : World} {R B : Nat} {r : Rd} {tb : List UInt8} {most : Nat} {a : Im.St} (h : StOne w R B r tb most a) (hf : Fr (· = R) w w') {r' : Rd} {a' : Im.St} (hR : RdAt w' R r')
    (e1 : r'.bit = (a'.pos : Int)) (e2 : r'.state = (a'.state : Int)) (e3 : r'.last = a'.last) (e4 : r'.left = (a'.left : Int)) (k1 : r'.told = r.told) (k2 : r'.most = r.most) (k3 : r'.e = r.e) (k4 : r'.out = r.out) (k5 : r'.back = r.back) (k6 : r'.s = r.s) (k7 : a'.out = a.out)
    (ht : a'.state = 2 → TabAt w' r'.lit a'.lit ∧ TabAt w' r'.dist a'.dist) (hp : a'.pos ≤ 8 * r.s.size) (hl : a'.left ≤ 65535) (hs : a'.state ≤ 3) (h1 : r'.lit.oneCell' = true ∧ r'.dist.oneCell' = true) : StOne w' R B r' tb most a' := by
  obtain ⟨o1, o2, _, o4⟩ := h.toStAt.outs hf
  exact { at_ := hR, bit := e1, state := e2, last := e3, left := e4, told := k1.trans h.told, most_ := k2.trans h.most_, e := k3.trans h.e, out := by rw [k7, k4]; exact o1, back := by rw [k5]; exact o2, tabs := ht, base := o4, pos_le := by rw [k6]; exact hp, size_le := by rw [k6]; exact h.size_le, out_le := by rw [k7]; exact h.out_le, most_le := h.most_le, left_le := hl, state_le := hs, one := h1 }
theorem ends_model (R B : Nat) (r : Rd) (tb : List UInt8) (most : Nat) (a : Im.St) (w : World) (h : StOne w R B r tb most a) :
    Calls Try.prog 56 #[.pointer (some ⟨R, 0, none⟩)] w (Steps R B r tb most w (.ok (Im.endsP a))) := by
  have hsz := h.size_le
  have hpos := h.pos_le
  have hleft := h.left_le
  cases hl : a.last with
  | false =>
    have e : Im.endsP a = { a with state := 0 } := by unfold Im.endsP; rw [hl]; rfl
    rw [e]
    refine (ends_on R r w h.at_ (h.last.trans hl)).mono ?_
    rintro o w' ⟨rfl, hR', hf⟩
    exact ⟨rfl, ⟨_, h.to hf hR' h.bit rfl h.last h.left rfl rfl rfl rfl rfl rfl rfl (by simp) hpos hleft (by simp) h.one, rfl⟩, Grew.of_fr hf⟩
  | true =>
    have e : Im.endsP a = { a with state := 3, pos := (a.pos + 7) / 8 * 8 } := by unfold Im.endsP; rw [hl]; rfl
    rw [e]
    refine (ends_all R r a.pos w h.at_ (h.last.trans hl) h.bit (by omega)).mono ?_
    rintro o w' ⟨rfl, hR', hf⟩
    exact ⟨rfl, ⟨_, h.to hf hR' rfl rfl h.last h.left rfl rfl rfl rfl rfl rfl rfl (by simp) (by simp only; omega) hleft (by simp) h.one, rfl⟩, Grew.of_fr hf⟩
theorem element_model (R B : Nat) (r : Rd) (tb : List UInt8) (most : Nat) (a : Im.St) (w : World) (h : StOne w R B r tb most a) (h2 : a.state = 2) :
    Calls Try.prog 59 #[.pointer (some ⟨R, 0, none⟩)] w (Steps R B r tb most w (Im.elemP r.s.data.toList most a)) := by
  have hsz := h.size_le
  have hpos := h.pos_le
  have hmost := h.most_le
  have hol := h.out_le
  obtain ⟨⟨T, hT, hTt, hTs, hTl⟩, ⟨D, hD, hDt, hDs, hDl⟩⟩ := h.tabs h2
  obtain ⟨o, ho1, ho2⟩ := h.out
  have hlen : a.out.length = tb.length + o.length := by rw [ho1, List.length_append]
  have HS := symbol_moves R T a.lit r a.pos w h.at_ hTt hTs h.bit hpos hsz
  unfold Im.elemP
  cases hx : Im.symP a.lit r.s.data.toList a.pos with
  | error e =>
    rw [hx] at HS
    exact element_sym R T r w e h.at_ hT (Lib.hid HS)
  | ok v =>
    obtain ⟨x, p1⟩ := v
    rw [hx] at HS
    obtain ⟨x1, x2, x3, _⟩ := Im.symP_ok hx
    rw [blen] at x3
    dsimp only
    by_cases c1 : x < 256
    · rw [if_pos c1]
      have eu := u8_nat x c1
      by_cases c2 : a.out.length < most
      · rw [if_pos c2]
        refine (element_lit_yes R T x p1 r w (fun w' => (∃ r', StOne w' R B r' tb most { a with pos := p1, out := a.out ++ [UInt8.ofNat x] } ∧ (r'.s, r'.back) = (r.s, r.back)) ∧ Grew R B w w') h.at_ hT c1 (Lib.hid HS) ?_).mono ?_
        · intro w1 hR1 hf1
          have hT1 := tell_yes R B { r with bit := (p1 : Int) } tb.length most o (UInt8.ofNat x) w1 hR1 (ho2.fr h.at_ hf1) h.told h.most_ (Nat.le_trans h.base hf1.size) hmost (by omega) (by omega) (by omega)
          rw [eu] at hT1
          refine hT1.mono ?_
          rintro e w' ⟨rfl, ⟨v, hR2, hv⟩, hg⟩
          have hg' : Grew R B w w' := (Grew.of_fr hf1).trans hg
          refine ⟨rfl, ⟨{ r with bit := (p1 : Int), out := v }, ?_, rfl⟩, hg'⟩
          exact { at_ := hR2, bit := rfl, state := h.state, last := h.last, left := h.left, told := h.told, most_ := h.most_, e := h.e, out := ⟨_, by rw [ho1, List.append_assoc], hv⟩, back := h.back.grew h.at_ hg', tabs := fun _ => ⟨(h.tabs h2).1.grew h.at_ hg', (h.tabs h2).2.grew h.at_ hg'⟩, base := Nat.le_trans h.base hg'.size, pos_le := x3, size_le := hsz, out_le := by simp only [List.length_append, List.length_cons, List.length_nil]; omega, most_le := hmost, left_le := h.left_le, state_le := h.state_le, one := h.one }
        · rintro e w' ⟨rfl, hq⟩; exact ⟨rfl, hq⟩
      · rw [if_neg c2]
        refine (element_lit_no R T x p1 r w (fun w' => Fr (· = R) w w') 93 h.at_ hT c1 (Lib.hid HS) ?_).mono ?_
        · intro w1 hR1 hf1
          have hT1 := tell_no R B { r with bit := (p1 : Int) } tb.length most o (UInt8.ofNat x) w1 hR1 (ho2.fr h.at_ hf1) h.told h.most_ (by omega) (by omega) (by omega) (by omega)
          rw [eu] at hT1
          refine hT1.mono ?_
          rintro e w' ⟨rfl, hf⟩
          exact ⟨rfl, hf1.trans hf⟩
        · rintro e w' ⟨rfl, hq⟩; exact ⟨rfl, hq⟩
    rw [if_neg c1]
    by_cases c2 : x = 256
    · rw [if_pos c2]
      subst c2
      have hleft := h.left_le
      rcases Bool.eq_false_or_eq_true a.last with hl | hl
      rotate_left
      ·
        have e : Im.endsP { a with pos := p1 } = { a with pos := p1, state := 0 } := by unfold Im.endsP; rw [hl]; rfl
        rw [e]
        refine (element_end R T p1 r { r with bit := (p1 : Int), state := 0 } w h.at_ hT (Lib.hid HS) ?_).mono ?_
        · intro w1 hR1; exact ends_on R _ w1 hR1 (h.last.trans hl)
        · rintro o w' ⟨rfl, hR', hf⟩
          exact ⟨rfl, ⟨_, h.to hf hR' rfl rfl h.last h.left rfl rfl rfl rfl rfl rfl rfl (by simp) x3 hleft (by simp) h.one, rfl⟩, Grew.of_fr hf⟩
      ·
        have e : Im.endsP { a with pos := p1 } = { a with state := 3, pos := (p1 + 7) / 8 * 8 } := by unfold Im.endsP; rw [hl]; rfl
        rw [e]
        refine (element_end R T p1 r { r with bit := (((p1 + 7) / 8 * 8 : Nat) : Int), state := 3 } w h.at_ hT (Lib.hid HS) ?_).mono ?_
        · intro w1 hR1; exact ends_all R { r with bit := (p1 : Int) } p1 w1 hR1 (h.last.trans hl) rfl (by omega)
        · rintro o w' ⟨rfl, hR', hf⟩
          exact ⟨rfl, ⟨_, h.to hf hR' rfl rfl h.last h.left rfl rfl rfl rfl rfl rfl rfl (by simp) (by simp only; omega) hleft (by simp) h.one, rfl⟩, Grew.of_fr hf⟩
    rw [if_neg c2]
    have HL := fun w1 hR1 => length_moves R x { r with bit := (p1 : Int) } p1 w1 hR1 rfl x3 hsz (by omega) (by omega)
    cases hn : Im.lenP r.s.data.toList x p1 with
    | error e =>
      simp only [hn] at HL
      exact element_len_no R T x p1 e r w h.at_ hT (by omega) (Lib.hid HS) HL
    | ok v =>
    obtain ⟨n, p2⟩ := v
    simp only [hn] at HL
    obtain ⟨n1, n2, n3⟩ := Im.lenP_ok hn (by omega)
    rw [blen] at n3
    dsimp only
    have HS2 := fun w1 hR1 (hf1 : Fr (· = R) w w1) => symbol_moves R D a.dist { r with bit := (p2 : Int) } p2 w1 hR1 (hDt.fr h.at_ hf1) hDs rfl n3 hsz
    cases hy : Im.symP a.dist r.s.data.toList p2 with
    | error e =>
      simp only [hy] at HS2
      exact element_dsym_no R T D x p1 n p2 e r w h.at_ hT (by omega) hD (Lib.hid HS) HL HS2
    | ok v =>
    obtain ⟨y, p3⟩ := v
    simp only [hy] at HS2
    obtain ⟨y1, y2, y3, _⟩ := Im.symP_ok hy
    rw [blen] at y3
    dsimp only
    have HD := fun w1 hR1 => distance_moves R y { r with bit := (p3 : Int) } p3 w1 hR1 rfl y3 hsz (by omega)
    cases hd : Im.dstP r.s.data.toList y p3 with
    | error e =>
      simp only [hd] at HD
      exact element_dst_no R T D x p1 n p2 y p3 e r w h.at_ hT (by omega) hD (Lib.hid HS) HL HS2 HD
    | ok v =>
    obtain ⟨d, p4⟩ := v
    simp only [hd] at HD
    obtain ⟨d1, d2, d3, d4⟩ := Im.dstP_ok hd
    rw [blen] at d4
    dsimp only
    by_cases c3 : a.out.length < d
    · rw [if_pos c3]
      exact element_far R T D x p1 n p2 y p3 d p4 r w h.at_ hT (by omega) hD B tb.length most o ho2 h.told h.most_ (by omega) (by omega) (by omega) (Lib.hid HS) HL HS2 HD
    rw [if_neg c3]
    by_cases c4 : most < a.out.length + n
    · rw [if_pos c4]
      exact element_big R T D x p1 n p2 y p3 d p4 r w h.at_ hT (by omega) hD B tb.length most o ho2 h.told h.most_ (by omega) (by omega) (by omega) (by omega) (Lib.hid HS) HL HS2 HD
    rw [if_neg c4]
    refine (element_copy R T D x p1 n p2 y p3 d p4 r w h.at_ hT (by omega) hD B most tb o ho2 h.back h.base h.told h.most_ hmost d1 d2 (by omega) (by omega) (Lib.hid HS) HL HS2 HD).mono ?_
    rintro e w' ⟨rfl, ⟨v, ok, hcp, hR2, hv⟩, hg'⟩
    refine ⟨rfl, ⟨{ r with bit := (p4 : Int), out := v }, ?_, rfl⟩, hg'⟩
    exact { at_ := hR2, bit := rfl, state := h.state, last := h.last, left := h.left, told := h.told, most_ := h.most_, e := h.e, out := ⟨ok, by rw [ho1]; exact hcp, hv⟩, back := h.back.grew h.at_ hg', tabs := fun _ => ⟨(h.tabs h2).1.grew h.at_ hg', (h.tabs h2).2.grew h.at_ hg'⟩, base := Nat.le_trans h.base hg'.size, pos_le := d4, size_le := hsz, out_le := by simp only [Im.copyP_length]; omega, most_le := hmost, left_le := h.left_le, state_le := h.state_le, one := h.one }
end Go.Proofs.Ytcjcmlnbchmnnaa
