/- Plain mathematics of layer 10: members that are laid with right lengths and sums are told; with a wrong sum or size they are not (no program in sight). -/
import Derived.Test.YtcjcmlnbchmnnaaGHist
namespace Go.Proofs.Ytcjcmlnbchmnnaa.Gz

theorem nought_text (f t : List UInt8) (h : ∀ c ∈ f, c ≠ 0) : nought (f ++ (0 :: t)) = some f.length := by
  induction f with
  | nil => rfl
  | cons c f ih =>
    have hc := h c (by simp)
    have hf := ih fun d hd => h d (by simp [hd])
    rw [List.cons_append]
    unfold nought
    rw [if_neg hc, hf]
    rfl
theorem text_step (A f t : List UInt8) (h : ∀ c ∈ f, c ≠ 0) : textP (A ++ (f ++ (0 :: t))) A.length = some (A.length + (f.length + 1)) := by
  unfold textP
  rw [List.drop_left, nought_text f t h]
  rfl
theorem nAt_mid (A X t : List UInt8) (n : Nat) (hX : X.length = n) : nAt n (A ++ (X ++ t)) A.length = Cm.getN X := by
  unfold nAt
  rw [List.drop_left, ← hX, List.take_left]
/-- the parts of a head behind its first ten bytes -/
def partE (fl : Nat) (f : List UInt8) : List UInt8 := if fl / 4 % 2 = 1 then Cm.putL f.length 2 ++ f else []
def partT (b : Bool) (f : List UInt8) : List UInt8 := if b then f ++ [0] else []
def partS (fl : Nat) (h : List UInt8) : List UInt8 := if fl / 2 % 2 = 1 then Cm.putL (Cm.crc 0 h % 65536) 2 else []
theorem ext_step (A f t : List UInt8) (fl : Nat) (hf : f.length < 65536) : extP fl (A ++ (partE fl f ++ t)) A.length = namP fl (A ++ (partE fl f ++ t)) (A.length + (partE fl f).length) := by
  unfold extP
  by_cases h : fl / 4 % 2 = 1
  · have hp : partE fl f = Cm.putL f.length 2 ++ f := if_pos h
    have hn : nAt 2 (A ++ (partE fl f ++ t)) A.length = f.length := by
      rw [hp, List.append_assoc, nAt_mid A _ _ 2 (Cm.putL_length _ _), Cm.getN_putL]
      exact Nat.mod_eq_of_lt (by omega)
    have hl : (partE fl f).length = 2 + f.length := by rw [hp, List.length_append, Cm.putL_length]
    have ht : (A ++ (partE fl f ++ t)).length = A.length + ((partE fl f).length + t.length) := by rw [List.length_append, List.length_append]
    rw [if_pos h, hn, if_neg (by omega), if_neg (by omega), hl, Nat.add_assoc]
  · have hp : partE fl f = [] := if_neg h
    rw [if_neg h, hp]
    rfl
theorem nam_step (A f t : List UInt8) (fl : Nat) (b : Bool) (hb : (fl / 8 % 2 = 1) = (b = true)) (h : ∀ c ∈ f, c ≠ 0) : namP fl (A ++ (partT b f ++ t)) A.length = comP fl (A ++ (partT b f ++ t)) (A.length + (partT b f).length) := by
  unfold namP
  cases b with
  | true =>
    have e : partT true f = f ++ [0] := rfl
    rw [if_pos (by rw [hb]), e, List.append_assoc, List.singleton_append, text_step A f t h]
    simp
  | false =>
    rw [if_neg (by rw [hb]; simp)]
    rfl
theorem com_step (A f t : List UInt8) (fl : Nat) (b : Bool) (hb : (fl / 16 % 2 = 1) = (b = true)) (h : ∀ c ∈ f, c ≠ 0) : comP fl (A ++ (partT b f ++ t)) A.length = sumP fl (A ++ (partT b f ++ t)) (A.length + (partT b f).length) := by
  unfold comP
  cases b with
  | true =>
    have e : partT true f = f ++ [0] := rfl
    rw [if_pos (by rw [hb]), e, List.append_assoc, List.singleton_append, text_step A f t h]
    simp
  | false =>
    rw [if_neg (by rw [hb]; simp)]
    rfl
theorem sum_step (A t : List UInt8) (fl : Nat) : sumP fl (A ++ (partS fl A ++ t)) A.length = .ok (A.length + (partS fl A).length) := by
  unfold sumP
  by_cases h : fl / 2 % 2 = 1
  · have hp : partS fl A = Cm.putL (Cm.crc 0 A % 65536) 2 := if_pos h
    have hl : (partS fl A).length = 2 := by rw [hp, Cm.putL_length]
    have hn : nAt 2 (A ++ (partS fl A ++ t)) A.length = Cm.crc 0 A % 65536 := by
      rw [nAt_mid A _ _ 2 hl, hp, Cm.getN_putL]
      exact Nat.mod_eq_of_lt (by have : 256 ^ 2 = 65536 := rfl; omega)
    have ht : (A ++ (partS fl A ++ t)).length = A.length + ((partS fl A).length + t.length) := by rw [List.length_append, List.length_append]
    rw [if_pos h, hn, if_neg (by omega), List.take_left, if_pos rfl, hl]
  · have hp : partS fl A = [] := if_neg h
    rw [if_neg h, hp]
    rfl
/-- a head's parts -/
def h3 (fl : Nat) (b10 f : List UInt8) (x y : Bool) : List UInt8 := ((b10 ++ partE fl f) ++ partT x f) ++ partT y f
def headF (fl : Nat) (b10 f : List UInt8) (x y : Bool) : List UInt8 := h3 fl b10 f x y ++ partS fl (h3 fl b10 f x y)
theorem head_ok (fl : Nat) (r f t : List UInt8) (x y : Bool) (hfl : fl < 32) (hr : r.length = 6) (hf : f.length < 65536) (h : ∀ c ∈ f, c ≠ 0) (hx : (fl / 8 % 2 = 1) = (x = true)) (hy : (fl / 16 % 2 = 1) = (y = true)) :
    magP (headF fl (31 :: 139 :: 8 :: UInt8.ofNat fl :: r) f x y ++ t) = .ok (headF fl (31 :: 139 :: 8 :: UInt8.ofNat fl :: r) f x y).length := by
  have hb : (31 :: 139 :: 8 :: UInt8.ofNat fl :: r).length = 10 := by simp [hr]
  have hfn : (UInt8.ofNat fl).toNat = fl := by rw [UInt8.toNat_ofNat']; exact Nat.mod_eq_of_lt (by omega)
  have hodd : ¬ Odd (31 :: 139 :: 8 :: UInt8.ofNat fl :: r) := by
    unfold Odd
    rintro (⟨_, q⟩ | ⟨_, q⟩ | ⟨_, q⟩ | ⟨_, q⟩)
    · exact q rfl
    · exact q rfl
    · exact q rfl
    · have : (31 :: 139 :: 8 :: UInt8.ofNat fl :: r : List UInt8).getD 3 0 = UInt8.ofNat fl := rfl
      rw [this, hfn] at q
      omega
  have hg3 : (31 :: 139 :: 8 :: UInt8.ofNat fl :: r : List UInt8).getD 3 0 = UInt8.ofNat fl := rfl
  generalize (31 :: 139 :: 8 :: UInt8.ofNat fl :: r : List UInt8) = B at *
  have e1 : headF fl B f x y ++ t = B ++ (partE fl f ++ (partT x f ++ (partT y f ++ (partS fl (h3 fl B f x y) ++ t)))) := by
    unfold headF; unfold h3; simp only [List.append_assoc]
  have e2 : headF fl B f x y ++ t = (B ++ partE fl f) ++ (partT x f ++ (partT y f ++ (partS fl (h3 fl B f x y) ++ t))) := by
    unfold headF; unfold h3; simp only [List.append_assoc]
  have e3 : headF fl B f x y ++ t = ((B ++ partE fl f) ++ partT x f) ++ (partT y f ++ (partS fl (h3 fl B f x y) ++ t)) := by
    unfold headF; unfold h3; simp only [List.append_assoc]
  have e4 : headF fl B f x y ++ t = h3 fl B f x y ++ (partS fl (h3 fl B f x y) ++ t) := by
    unfold headF; simp only [List.append_assoc]
  have s0 : magP (headF fl B f x y ++ t) = extP fl (headF fl B f x y ++ t) 10 := by
    have hl : ¬ (headF fl B f x y ++ t).length < 10 := by rw [e1, List.length_append, hb]; omega
    have ho : ¬ Odd (headF fl B f x y ++ t) := by rw [e1]; exact even_app _ hodd (by omega)
    have hd : (headF fl B f x y ++ t).getD 3 0 = UInt8.ofNat fl := by rw [e1, getD_app _ (by omega)]; exact hg3
    unfold magP
    rw [if_neg ho, if_neg hl, hd, hfn]
  rw [s0, e1, ← hb, ext_step B f _ fl hf, ← e1, e2]
  have l1 : B.length + (partE fl f).length = (B ++ partE fl f).length := List.length_append.symm
  rw [l1, nam_step (B ++ partE fl f) f _ fl x hx h, ← e2, e3]
  have l2 : (B ++ partE fl f).length + (partT x f).length = ((B ++ partE fl f) ++ partT x f).length := List.length_append.symm
  rw [l2, com_step ((B ++ partE fl f) ++ partT x f) f _ fl y hy h, ← e3, e4]
  have l3 : ((B ++ partE fl f) ++ partT x f).length + (partT y f).length = (h3 fl B f x y).length := by unfold h3; exact List.length_append.symm
  rw [l3, sum_step]
  unfold headF
  rw [List.length_append]
/-- what is behind a head: one block of the kind 0, a sum and a size -/
theorem member_run (H s X Y t : List UInt8) (most : Nat) (hH : ∀ t, magP (H ++ t) = .ok H.length) (hs : s.length ≤ 65535) (hm : s.length ≤ most) (hX : X.length = 4) (hY : Y.length = 4) :
    (Cm.getN X = Cm.crc 0 s → Cm.getN Y = s.length → GRun (H ++ (Im.blk true s ++ (X ++ (Y ++ t)))) most (s, 0, some (H.length + (5 + s.length) + 8))) ∧
    (Cm.getN X ≠ Cm.crc 0 s ∨ Cm.getN Y ≠ s.length → GRun (H ++ (Im.blk true s ++ (X ++ (Y ++ t)))) most ([], 101, none)) := by
  have hr := Im.enc_run most (X ++ (Y ++ t)) [s] [] Im.start (by simp) rfl rfl (fun c hc => by rw [List.mem_singleton] at hc; rw [hc]; exact hs) (by show 0 + _ ≤ _; simp; exact hm)
  have e1 : [] ++ (Im.enc [s] ++ (X ++ (Y ++ t))) = Im.blk true s ++ (X ++ (Y ++ t)) := rfl
  have e2 : ([s] : List (List UInt8)).flatten = s := by simp
  rw [e1, e2] at hr
  have hd : (H ++ (Im.blk true s ++ (X ++ (Y ++ t)))).drop H.length = Im.blk true s ++ (X ++ (Y ++ t)) := List.drop_left
  rw [← hd] at hr
  have hpos : 8 * (([] : List UInt8) ++ Im.enc [s]).length / 8 = 5 + s.length := by
    have : (([] : List UInt8) ++ Im.enc [s]).length = 5 + s.length := by rw [List.nil_append]; exact Im.blk_length true s
    omega
  obtain ⟨c, hc, hc3, hco, hcp⟩ : ∃ c, Im.Run ((H ++ (Im.blk true s ++ (X ++ (Y ++ t)))).drop H.length) most Im.start c 0 ∧ c.state = 3 ∧ c.out = s ∧ c.pos / 8 = 5 + s.length := ⟨_, hr, rfl, rfl, hpos⟩
  clear hr hpos
  have q1 : nAt 4 (H ++ (Im.blk true s ++ (X ++ (Y ++ t)))) (H.length + (5 + s.length)) = Cm.getN X := by
    have : H ++ (Im.blk true s ++ (X ++ (Y ++ t))) = (H ++ Im.blk true s) ++ (X ++ (Y ++ t)) := by simp
    rw [this, show H.length + (5 + s.length) = (H ++ Im.blk true s).length by rw [List.length_append, Im.blk_length], nAt_mid _ _ _ 4 hX]
  have q2 : nAt 4 (H ++ (Im.blk true s ++ (X ++ (Y ++ t)))) (H.length + (5 + s.length) + 4) = Cm.getN Y := by
    have : H ++ (Im.blk true s ++ (X ++ (Y ++ t))) = ((H ++ Im.blk true s) ++ X) ++ (Y ++ t) := by simp
    rw [this, show H.length + (5 + s.length) + 4 = ((H ++ Im.blk true s) ++ X).length by rw [List.length_append, List.length_append, Im.blk_length, hX], nAt_mid _ _ _ 4 hY]
  have hl : (H ++ (Im.blk true s ++ (X ++ (Y ++ t)))).length = H.length + (5 + s.length) + 8 + t.length := by
    rw [List.length_append, List.length_append, Im.blk_length, List.length_append, List.length_append, hX, hY]; omega
  have hmd : s.length % 4294967296 = s.length := Nat.mod_eq_of_lt (by omega)
  have hMG := hH (Im.blk true s ++ (X ++ (Y ++ t)))
  generalize H ++ (Im.blk true s ++ (X ++ (Y ++ t))) = M at *
  constructor
  · intro h1 h2
    have ht : tailP M (H.length + c.pos / 8) c.out = (0, some (H.length + (5 + s.length) + 8)) := by
      rw [hcp, hco]
      unfold tailP
      rw [if_neg (by omega), if_neg (fun q => q (q1.trans h1)), if_neg (by omega), if_neg (fun q => q (q2.trans (h2.trans hmd.symm)))]
    refine .inr (.inr ⟨H.length, c, 0, hMG, hc, ?_⟩)
    rw [behind_ok hc3 ht, hco]
  · intro h
    have ht : tailP M (H.length + c.pos / 8) c.out = (101, none) := by
      rw [hcp, hco]
      unfold tailP
      rw [if_neg (by omega), q1, q2, hmd]
      by_cases h1 : Cm.getN X = Cm.crc 0 s
      · rw [if_neg (fun q => q h1), if_neg (by omega), if_pos (by rcases h with h | h; exact absurd h1 h; exact h)]
      · rw [if_pos h1]
    refine .inr (.inr ⟨H.length, c, 0, hMG, hc, ?_⟩)
    rw [behind_no hc3 ht]
/-- one byte of four turned is another number -/
theorem getN_set {X : List UInt8} {i : Nat} {c : UInt8} (hi : i < X.length) (hc : c ≠ X[i]) : Cm.getN (X.set i c) ≠ Cm.getN X := by
  intro h
  have h1 := Cm.putL_getN X
  have h2 := Cm.putL_getN (X.set i c)
  rw [List.length_set, h, h1] at h2
  have : (X.set i c)[i]? = X[i]? := by rw [← h2]
  rw [List.getElem?_set_self hi, List.getElem?_eq_getElem hi] at this
  injection this with this
  exact hc this
end Go.Proofs.Ytcjcmlnbchmnnaa.Gz
