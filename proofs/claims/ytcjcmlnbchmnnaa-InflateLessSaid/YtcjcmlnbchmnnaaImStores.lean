/- Plain mathematics of layer 9: blocks of the kind 0 are told as they are (no program in sight). -/
import Derived.Test.YtcjcmlnbchmnnaaImLess
namespace Go.Proofs.Ytcjcmlnbchmnnaa.Im

theorem num_byte (s : List UInt8) (k : Nat) : ∀ n, n ≤ 8 → num s (8 * k) n = (s.getD k 0).toNat % 2 ^ n
  | 0, _ => by simp [num, Nat.mod_one]
  | n + 1, h => by
    rw [num, num_byte s k n (by omega), Nat.mod_pow_succ]
    unfold Hm.bitOf
    rw [show (8 * k + n) / 8 = k by omega, show (8 * k + n) % 8 = n by omega, Nat.mul_comm]
theorem num_add (s : List UInt8) (p m : Nat) : ∀ n, num s p (m + n) = num s p m + 2 ^ m * num s (p + m) n
  | 0 => by simp [num]
  | n + 1 => by
    rw [← Nat.add_assoc, num, num_add s p m n, num, Nat.mul_add, Nat.add_assoc, Nat.add_assoc, Nat.pow_add]
    congr 2
    rw [Nat.mul_comm (2 ^ m) (2 ^ n), ← Nat.mul_assoc, Nat.mul_comm]
theorem num_byte8 (s : List UInt8) (k : Nat) : num s (8 * k) 8 = (s.getD k 0).toNat := by
  rw [num_byte s k 8 (by omega)]; exact Nat.mod_eq_of_lt (s.getD k 0).toNat_lt
theorem num_byte16 (s : List UInt8) (k : Nat) : num s (8 * k) 16 = (s.getD k 0).toNat + 256 * (s.getD (k + 1) 0).toNat := by
  rw [show 16 = 8 + 8 from rfl, num_add, num_byte8, show 8 * k + 8 = 8 * (k + 1) by omega, num_byte8]
/-- a block of the kind 0 -/
def blk (last : Bool) (c : List UInt8) : List UInt8 := (if last then 1 else 0) :: UInt8.ofNat c.length :: UInt8.ofNat (c.length / 256) :: UInt8.ofNat (255 - c.length % 256) :: UInt8.ofNat (255 - c.length / 256) :: c
theorem blk_length (last : Bool) (c : List UInt8) : (blk last c).length = 5 + c.length := by unfold blk; simp; omega
theorem of_nat (n : Nat) : (UInt8.ofNat n).toNat = n % 256 := UInt8.toNat_ofNat'
theorem blk_begins (last : Bool) (c t : List UInt8) (a : St) (h : c.length ≤ 65535) (ha : a.pos = 0) : begP (blk last c ++ t) a = .ok { a with pos := 40, state := 1, last := last, left := c.length } := by
  have hl : 5 ≤ (blk last c ++ t).length := by rw [List.length_append, blk_length]; omega
  have e0 : (blk last c ++ t).getD 0 0 = if last then 1 else 0 := rfl
  have e1 : (blk last c ++ t).getD 1 0 = UInt8.ofNat c.length := rfl
  have e2 : (blk last c ++ t).getD 2 0 = UInt8.ofNat (c.length / 256) := rfl
  have e3 : (blk last c ++ t).getD 3 0 = UInt8.ofNat (255 - c.length % 256) := rfl
  have e4 : (blk last c ++ t).getD 4 0 = UInt8.ofNat (255 - c.length / 256) := rfl
  generalize blk last c ++ t = s at *
  have n1 : num s 0 1 = if last then 1 else 0 := by
    have := num_byte s 0 1 (by omega)
    rw [Nat.mul_zero] at this
    rw [this, e0]
    cases last <;> rfl
  have n2 : num s 1 2 = 0 := by
    have h3 := num_byte s 0 3 (by omega)
    rw [Nat.mul_zero] at h3
    have h4 := num_add s 0 1 2
    rw [show 1 + 2 = 3 from rfl, h3, n1, e0, Nat.zero_add] at h4
    cases last
    · simp at h4; omega
    · simp at h4; omega
  have n3 : num s 8 16 = c.length := by
    have := num_byte16 s 1
    rw [Nat.mul_one] at this
    rw [this, e1, e2, of_nat, of_nat]; omega
  have n4 : num s 24 16 = 65535 - c.length := by
    have := num_byte16 s 3
    rw [show 8 * 3 = 24 from rfl] at this
    rw [this, e3, e4, of_nat, of_nat]; omega
  unfold begP
  have b1 : bitsP s a.pos 1 = .ok (if last then 1 else 0, 1) := by unfold bitsP; rw [ha, if_pos (by omega), n1]
  have b2 : bitsP s 1 2 = .ok (0, 3) := by unfold bitsP; rw [if_pos (by omega), n2]
  have b3 : bitsP s 8 16 = .ok (c.length, 24) := by unfold bitsP; rw [if_pos (by omega), n3]
  have b4 : bitsP s 24 16 = .ok (65535 - c.length, 40) := by unfold bitsP; rw [if_pos (by omega), n4]
  rw [b1]
  dsimp only
  rw [b2]
  dsimp only
  rw [if_pos rfl, show (3 + 7) / 8 * 8 = 8 from rfl, b3]
  dsimp only
  rw [b4]
  dsimp only
  rw [if_pos (by omega)]
  cases last <;> rfl
/-- the bytes of a block, one by one -/
theorem stored_run (u t : List UInt8) (most : Nat) : ∀ (c : List UInt8) (a : St) (b : St) (e : Int), a.state = 1 → a.left = c.length → a.pos = 8 * u.length → a.out.length + c.length ≤ most →
    Run (u ++ c ++ t) most { a with pos := 8 * (u.length + c.length), left := 0, out := a.out ++ c } b e → Run (u ++ c ++ t) most a b e := by
  intro c
  induction c generalizing u with
  | nil =>
    intro a b e h1 h2 h3 _ hr
    obtain ⟨pos, state, last, left, lit, dist, out⟩ := a
    dsimp only at h1 h2 h3 hr
    rw [List.append_nil out] at hr
    simp only [List.length_nil] at h2
    subst h1 h2 h3
    exact hr
  | cons x c ih =>
    intro a b e h1 h2 h3 h4 hr
    have hs : stepP (u ++ x :: c ++ t) most a = .ok { a with pos := 8 * (u ++ [x]).length, left := c.length, out := a.out ++ [x] } := by
      unfold stepP
      rw [if_neg (by omega), if_pos h1, if_neg (by rw [h2]; simp)]
      have hb : bitsP (u ++ x :: c ++ t) a.pos 8 = .ok (x.toNat, 8 * (u ++ [x]).length) := by
        unfold bitsP
        rw [h3, if_pos (by simp; omega), num_byte8]
        have : (u ++ x :: c ++ t).getD u.length 0 = x := by
          rw [List.append_assoc, List.getD_eq_getElem?_getD, List.getElem?_append_right (Nat.le_refl _), Nat.sub_self]; rfl
        rw [this]
        simp; omega
      rw [hb]
      dsimp only
      simp only [List.length_cons] at h4
      rw [if_pos (by omega), h2]
      simp
    refine .step (by omega) hs ?_
    have e1 : u ++ x :: c ++ t = u ++ [x] ++ c ++ t := by simp
    rw [e1] at hr ⊢
    refine ih (u ++ [x]) _ b e h1 rfl rfl (by simp at h4 ⊢; omega) ?_
    have e2 : 8 * ((u ++ [x]).length + c.length) = 8 * (u.length + (x :: c).length) := by simp; omega
    have e3 : a.out ++ [x] ++ c = a.out ++ x :: c := by simp
    dsimp only
    rw [e2, e3]
    exact hr
theorem blk_run (u t c : List UInt8) (last : Bool) (most : Nat) (a b : St) (e : Int) (h0 : a.state = 0) (hp : a.pos = 8 * u.length) (hc : c.length ≤ 65535) (hm : a.out.length + c.length ≤ most)
    (hr : Run (u ++ (blk last c ++ t)) most { a with pos := 8 * (u ++ blk last c).length, state := if last then 3 else 0, last := last, left := 0, out := a.out ++ c } b e) : Run (u ++ (blk last c ++ t)) most a b e := by
  have hb := begP_pre u (blk last c ++ t) { a with pos := 0 }
  have eu : St.up u.length { a with pos := 0 } = a := by
    obtain ⟨pos, state, last, left, lit, dist, out⟩ := a
    dsimp only at hp
    subst hp
    rfl
  rw [eu, blk_begins last c t _ hc rfl] at hb
  have hs : stepP (u ++ (blk last c ++ t)) most a = .ok { a with pos := 8 * (u.length + 5), state := 1, last := last, left := c.length } := by
    unfold stepP
    rw [if_pos h0, hb]
    simp only [lift, St.up]
    congr 2
  refine .step (by omega) hs ?_
  have hd : ∃ h : List UInt8, blk last c = h ++ c ∧ h.length = 5 := ⟨(blk last c).take 5, rfl, rfl⟩
  obtain ⟨h, e1, e2⟩ := hd
  have e3 : u ++ (blk last c ++ t) = (u ++ h) ++ c ++ t := by rw [e1]; simp
  have e4 : (u ++ blk last c).length = (u ++ h).length + c.length := by rw [e1]; simp; omega
  rw [e3] at hr ⊢
  refine stored_run (u ++ h) t most c _ b e rfl rfl (by dsimp only; rw [List.length_append, e2]) (by dsimp only; exact hm) ?_
  dsimp only
  refine .step (by dsimp only; omega) (a' := { a with pos := 8 * (u ++ blk last c).length, state := if last then 3 else 0, last := last, left := 0, out := a.out ++ c }) ?_ hr
  unfold stepP
  rw [if_neg (by dsimp only; omega), if_pos rfl, if_pos rfl]
  unfold endsP
  rw [e4]
  cases last with
  | false => rfl
  | true =>
    simp only [if_true]
    congr 2
    omega
/-- blocks, the last one marked -/
def enc : List (List UInt8) → List UInt8
  | [] => []
  | [c] => blk true c
  | c :: cs => blk false c ++ enc cs
theorem enc_run (most : Nat) (t : List UInt8) : ∀ (cs : List (List UInt8)) (u : List UInt8) (a : St), cs ≠ [] → a.state = 0 → a.pos = 8 * u.length → (∀ c ∈ cs, c.length ≤ 65535) → a.out.length + cs.flatten.length ≤ most →
    Run (u ++ (enc cs ++ t)) most a { a with pos := 8 * (u ++ enc cs).length, state := 3, last := true, left := 0, out := a.out ++ cs.flatten } 0
  | [], _, _, h, _, _, _, _ => absurd rfl h
  | [c], u, a, _, h0, hp, hc, hm => by
    have e1 : [c].flatten = c := by simp
    rw [e1] at hm ⊢
    refine blk_run u t c true most a _ 0 h0 hp (hc c (by simp)) hm (.done rfl)
  | c :: d :: cs, u, a, _, h0, hp, hc, hm => by
    have hm' : a.out.length + (c.length + (d :: cs).flatten.length) ≤ most := by
      rw [List.flatten_cons, List.length_append] at hm; exact hm
    have e0 : enc (c :: d :: cs) = blk false c ++ enc (d :: cs) := rfl
    rw [e0, List.append_assoc]
    refine blk_run u (enc (d :: cs) ++ t) c false most a _ 0 h0 hp (hc c (by simp)) (by omega) ?_
    have ih := enc_run most t (d :: cs) (u ++ blk false c) { a with pos := 8 * (u ++ blk false c).length, state := 0, last := false, left := 0, out := a.out ++ c } (by simp) rfl rfl (fun x hx => hc x (List.mem_cons_of_mem _ hx)) (by dsimp only; rw [List.length_append]; omega)
    dsimp only at ih
    rw [List.append_assoc] at ih
    rw [List.flatten_cons, ← List.append_assoc a.out]
    simp only [List.append_assoc] at ih ⊢
    exact ih
end Go.Proofs.Ytcjcmlnbchmnnaa.Im
