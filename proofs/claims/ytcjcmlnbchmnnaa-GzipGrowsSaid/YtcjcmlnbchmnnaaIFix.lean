/- Plain mathematics of layer 9: bytes, a copy and the end by the codes that are always the same, as runs (no program in sight). · Plain: the runs of the streams that 'fixed' of farrierlaw09 asks (no program in sight). -/
import Derived.Test.YtcjcmlnbchmnnaaImE
import Derived.Test.YtcjcmlnbchmnnaaIFixed
/-! ### ImFixed2 -/
namespace Go.Proofs.Ytcjcmlnbchmnnaa.Im

/-- a reader in a block of fixed codes, the last one -/
structure InFixed (a : St) : Prop where
  state : a.state = 2
  last : a.last = true
  lit : a.lit = fixLit
  dist : a.dist = fixDist
theorem litSym {s : List UInt8} {p x : Nat} (hx : x < 288) (h : At s p (litBits x)) : symP fixLit s p = .ok (x, p + Hm.len fixLit x) := by
  have hb := fixLit_bound hx
  exact sym_at hb.1 fixLit_short hb.2 h
theorem litBits_length (x : Nat) : (litBits x).length = Hm.len fixLit x := codeBits_length _ _
theorem lit_step {s : List UInt8} {most : Nat} {a : St} {c : UInt8} (hf : InFixed a) (h : At s a.pos (litBits c.toNat)) (hm : a.out.length < most) :
    stepP s most a = .ok { a with pos := a.pos + (litBits c.toNat).length, out := a.out ++ [c] } := by
  have hc := c.toNat_lt
  unfold stepP
  rw [if_neg (by rw [hf.state]; omega), if_neg (by rw [hf.state]; omega)]
  unfold elemP
  rw [hf.lit, litSym (by omega) h]
  dsimp only
  rw [if_pos (by omega), if_pos hm, UInt8.ofNat_toNat, litBits_length]
theorem lits_run {s : List UInt8} {most : Nat} {b : St} {e : Int} : ∀ (l : List UInt8) (a : St) (rest : List Nat), InFixed a → At s a.pos (l.flatMap (fun c => litBits c.toNat) ++ rest) → a.out.length + l.length ≤ most →
    Run s most { a with pos := a.pos + (l.flatMap fun c => litBits c.toNat).length, out := a.out ++ l } b e → Run s most a b e
  | [], a, rest, _, _, _, hr => by
    rw [List.append_nil] at hr; exact hr
  | c :: l, a, rest, hf, h, hm, hr => by
    rw [List.flatMap_cons, List.append_assoc] at h
    simp only [List.length_cons] at hm
    refine .step (by rw [hf.state]; omega) (lit_step hf h.left (by omega)) ?_
    refine lits_run l _ rest ⟨hf.state, hf.last, hf.lit, hf.dist⟩ h.right (by simp only [List.length_append, List.length_cons, List.length_nil]; omega) ?_
    rw [List.flatMap_cons, List.length_append] at hr
    simp only [List.append_assoc, List.cons_append, List.nil_append, Nat.add_assoc]
    exact hr
/-- the end of the block: the last one -/
theorem end_run {s : List UInt8} {most : Nat} {a : St} (hf : InFixed a) (h : At s a.pos (codeBits 0 7)) : Run s most a { a with pos := (a.pos + 7 + 7) / 8 * 8, state := 3 } 0 := by
  have hs : stepP s most a = .ok { a with pos := (a.pos + 7 + 7) / 8 * 8, state := 3 } := by
    unfold stepP
    rw [if_neg (by rw [hf.state]; omega), if_neg (by rw [hf.state]; omega)]
    unfold elemP
    have hl : litBits 256 = codeBits 0 7 := by unfold litBits; rw [fixLit_code 256 (by omega), fixLit_len 256 (by omega)]; rfl
    rw [hf.lit, litSym (x := 256) (by omega) (by rw [hl]; exact h), fixLit_len 256 (by omega)]
    dsimp only
    rw [if_neg (by omega), if_pos rfl]
    unfold endsP
    dsimp only
    rw [hf.last, if_pos rfl]
    rfl
  exact .step (by rw [hf.state]; omega) hs (.done rfl)
/-- a block's beginning, the last one, of fixed codes -/
theorem begin_fixed {s : List UInt8} {most : Nat} {b : St} {e : Int} (h : At s 0 [1, 1, 0]) (hr : Run s most { start with pos := 3, state := 2, last := true, lit := fixLit, dist := fixDist } b e) : Run s most start b e := by
  have h0 := h 0 1 rfl
  have h1 := h 1 1 rfl
  have h2 := h 2 0 rfl
  have n1 : num s 0 1 = 1 := by simp [num, h0.1]
  have n2 : num s 1 2 = 1 := by
    have e1 : Hm.bitOf s (1 + 1) = 0 := h2.1
    have e0 : Hm.bitOf s (1 + 0) = 1 := h1.1
    rw [num, num, num, e0, e1]
  refine .step (by simp [start]) (a' := { start with pos := 3, state := 2, last := true, lit := fixLit, dist := fixDist }) ?_ hr
  unfold stepP
  rw [if_pos (show start.state = 0 from rfl)]
  unfold begP
  have b1 : bitsP s start.pos 1 = .ok (1, 1) := by unfold bitsP; rw [if_pos (by show 0 + 1 ≤ _; omega)]; show Except.ok (num s 0 1, _) = _; rw [n1]; rfl
  have b2 : bitsP s 1 2 = .ok (1, 3) := by unfold bitsP; rw [if_pos (by omega), n2]
  rw [b1]
  dsimp only
  rw [b2]
  dsimp only
  rw [if_neg (by omega), if_pos rfl]
  rfl
/-- the stream of some bytes -/
def bytesBits (l : List UInt8) : List Nat := [1, 1, 0] ++ (l.flatMap (fun c => litBits c.toNat) ++ codeBits 0 7)
theorem bytes_run {s : List UInt8} {most : Nat} (l : List UInt8) (h : At s 0 (bytesBits l)) (hm : l.length ≤ most) :
    ∃ b, Run s most start b 0 ∧ b.state = 3 ∧ b.out = l ∧ b.pos = ((bytesBits l).length + 7) / 8 * 8 := by
  unfold bytesBits at h
  have h1 := h.left
  have h2 := h.right
  rw [Nat.zero_add] at h2
  refine ⟨_, begin_fixed h1 (lits_run l _ (codeBits 0 7) ⟨rfl, rfl, rfl, rfl⟩ h2 (by show 0 + _ ≤ _; omega) (end_run ⟨rfl, rfl, rfl, rfl⟩ h2.right)), rfl, by show [] ++ l = l; rfl, ?_⟩
  unfold bytesBits
  rw [List.length_append, List.length_append, codeBits_length]
  show (3 + (l.flatMap fun c => litBits c.toNat).length + 7 + 7) / 8 * 8 = (3 + ((l.flatMap fun c => litBits c.toNat).length + 7) + 7) / 8 * 8
  omega
/-- .. and then as many as n, from d back -/
def runBits (l : List UInt8) (n d : Nat) : List Nat := [1, 1, 0] ++ (l.flatMap (fun c => litBits c.toNat) ++ (codeBits (n - 2) 7 ++ (codeBits (d - 1) 5 ++ codeBits 0 7)))
theorem copy_step {s : List UInt8} {most : Nat} {a : St} {n d : Nat} (hf : InFixed a) (hn : 3 ≤ n) (hn2 : n ≤ 10) (hd : 1 ≤ d) (hd2 : d ≤ 4) (h : At s a.pos (codeBits (n - 2) 7 ++ codeBits (d - 1) 5)) :
    stepP s most a = if a.out.length < d then .error 92 else if most < a.out.length + n then .error 93 else .ok { a with pos := a.pos + 12, out := copyP a.out d n } := by
  unfold stepP
  rw [if_neg (by rw [hf.state]; omega), if_neg (by rw [hf.state]; omega)]
  unfold elemP
  have hl : litBits (n + 254) = codeBits (n - 2) 7 := by
    unfold litBits
    rw [fixLit_code _ (by omega), fixLit_len _ (by omega), if_neg (by omega), if_neg (by omega), if_pos (by omega), if_neg (by omega), if_neg (by omega), if_pos (by omega), show n + 254 - 256 = n - 2 by omega]
  have h1 := h.left
  have h2 := h.right
  have hb := At.bits h2 (by intro e; have := congrArg List.length e; simp [codeBits_length] at this)
  rw [codeBits_length] at h2 hb
  rw [codeBits_length] at hb
  rw [hf.lit, litSym (x := n + 254) (by omega) (by rw [hl]; exact h1), fixLit_len _ (by omega), if_neg (by omega), if_neg (by omega), if_pos (by omega)]
  dsimp only
  rw [if_neg (by omega), if_neg (by omega)]
  have e1 : lenP s (n + 254) (a.pos + 7) = .ok (n, a.pos + 7) := by
    have m0 : lenMore (n + 254) = 0 := by unfold lenMore; rw [if_neg (by omega), if_pos (by omega)]
    have m1 : lenBase (n + 254) = n := by unfold lenBase; rw [if_neg (by omega), if_pos (by omega)]; omega
    unfold lenP
    rw [if_neg (by omega), m0, m1, if_pos (by omega)]
    rfl
  rw [e1]
  dsimp only
  have hdc := fixDist_code (d - 1) (by omega)
  have e2 : symP fixDist s (a.pos + 7) = .ok (d - 1, a.pos + 7 + 5) := by
    have := sym_at (ns := fixDist) (i := d - 1) (s := s) (p := a.pos + 7) (by rw [hdc.2]; omega) fixDist_short (by rw [hdc.1, hdc.2]; omega) (by rw [hdc.1, hdc.2]; exact h2)
    rw [hdc.2] at this; exact this
  rw [hf.dist, e2]
  dsimp only
  have e3 : dstP s (d - 1) (a.pos + 7 + 5) = .ok (d, a.pos + 7 + 5) := by
    have m0 : dstMore (d - 1) = 0 := by unfold dstMore; rw [if_pos (by omega)]
    have m1 : dstBase (d - 1) = d := by unfold dstBase; rw [if_pos (by omega)]; omega
    unfold dstP
    rw [if_neg (by omega), m0, m1, if_pos (by omega)]
    rfl
  rw [e3]
theorem runs_run {s : List UInt8} {most : Nat} (l : List UInt8) {n d : Nat} (hn : 3 ≤ n) (hn2 : n ≤ 10) (hd : 1 ≤ d) (hd2 : d ≤ 4) (h : At s 0 (runBits l n d)) (hm : l.length + n ≤ most) :
    (l.length < d → ∃ b, Run s most start b 92) ∧ (d ≤ l.length → ∃ b, Run s most start b 0 ∧ b.state = 3 ∧ b.out = copyP l d n) := by
  unfold runBits at h
  have h1 := h.left
  have h2 := h.right
  rw [Nat.zero_add] at h2
  have h3 := h2.right
  have h4 : At s (3 + (l.flatMap fun c => litBits c.toNat).length) (codeBits (n - 2) 7 ++ codeBits (d - 1) 5) := by
    rw [← List.append_assoc] at h3; exact h3.left
  have hs : ∀ a : St, InFixed a → a.pos = 3 + (l.flatMap fun c => litBits c.toNat).length → stepP s most a = if a.out.length < d then .error 92 else if most < a.out.length + n then .error 93 else .ok { a with pos := a.pos + 12, out := copyP a.out d n } := fun a hf hp => copy_step hf hn hn2 hd hd2 (by rw [hp]; exact h4)
  have hpre : ∀ {b : St} {e : Int}, Run s most { start with pos := 3 + (l.flatMap fun c => litBits c.toNat).length, state := 2, last := true, lit := fixLit, dist := fixDist, out := l } b e → Run s most start b e := fun hr =>
    begin_fixed h1 (lits_run l _ _ ⟨rfl, rfl, rfl, rfl⟩ h2 (by show 0 + _ ≤ _; omega) hr)
  have hs2 := hs { start with pos := 3 + (l.flatMap fun c => litBits c.toNat).length, state := 2, last := true, lit := fixLit, dist := fixDist, out := l } ⟨rfl, rfl, rfl, rfl⟩ rfl
  dsimp only at hs2
  constructor
  · intro hlt
    rw [if_pos hlt] at hs2
    exact ⟨_, hpre (.stop (by dsimp only; omega) hs2)⟩
  · intro hle
    rw [if_neg (by omega), if_neg (by omega)] at hs2
    have h5 : At s (3 + (l.flatMap fun c => litBits c.toNat).length + 12) (codeBits 0 7) := by
      have := h3.right.right
      rw [codeBits_length, codeBits_length] at this
      exact this
    exact ⟨_, hpre (.step (by dsimp only; omega) hs2 (end_run ⟨rfl, rfl, rfl, rfl⟩ h5)), rfl, rfl⟩
end Go.Proofs.Ytcjcmlnbchmnnaa.Im
/-! ### IFix -/
namespace Go.Proofs.Ytcjcmlnbchmnnaa.Im

theorem at_of {s : List UInt8} {p : Nat} {bits : List Nat} (h : ∀ k, k < bits.length → Hm.bitOf s (p + k) = bits.getD k 0 ∧ (p + k) / 8 < s.length) : At s p bits := fun k x hk => by
  obtain ⟨hlt, e⟩ := List.getElem?_eq_some_iff.1 hk
  have := h k hlt
  rw [List.getD_eq_getElem?_getD, hk] at this
  exact this
def fxS : List UInt8 := [1, 2, 0, 253, 255, 97, 98, 120]
def fxEnd : St := { pos := 56, state := 3, last := true, left := 0, lit := [], dist := [], out := [97, 98] }
theorem fx_all (most : Nat) (h : 2 ≤ most) : Run fxS most start fxEnd 0 := enc_run most [120] [[97, 98]] [] start (by simp) rfl rfl (by simp) h
theorem fx_less : ∃ c, Run fxS 1 start c 93 := ((fx_all 2 (Nat.le_refl _)).less rfl rfl (k := 1) (Nat.zero_le _) (Nat.zero_le _) (Nat.zero_le _)).2 (by decide)
theorem fx_lit : ∃ b, Run [75, 4, 0] 9 start b 0 ∧ b.state = 3 ∧ b.out = [97] ∧ b.pos = 24 := by
  have hl : litBits 97 = codeBits 145 8 := by unfold litBits; rw [fixLit_code 97 (by omega), fixLit_len 97 (by omega)]; rfl
  have hb : bytesBits [97] = [1, 1, 0, 1, 0, 0, 1, 0, 0, 0, 1, 0, 0, 0, 0, 0, 0, 0] := by
    unfold bytesBits
    rw [List.flatMap_cons, List.flatMap_nil, show (97 : UInt8).toNat = 97 from rfl, hl]
    decide
  obtain ⟨b, h1, h2, h3, h4⟩ := bytes_run (s := [75, 4, 0]) (most := 9) [97] (by rw [hb]; exact at_of (by decide)) (by decide)
  refine ⟨b, h1, h2, h3, ?_⟩
  rw [h4, hb]
  rfl
theorem fx_form : Run [7] 9 start start 90 := .stop (by simp [start]) rfl
def fxHalf : St := { pos := 48, state := 1, last := true, left := 1, lit := [], dist := [], out := [97] }
theorem fx_half : Run [1, 2, 0, 253, 255, 97] 9 start fxHalf 0 :=
  .step (by simp [start]) (a' := { pos := 40, state := 1, last := true, left := 2, lit := [], dist := [], out := [] }) (by kernel_rfl) (.step (by simp) (a' := fxHalf) (by kernel_rfl) (.stop (by simp [fxHalf]) (by kernel_rfl)))
end Go.Proofs.Ytcjcmlnbchmnnaa.Im
