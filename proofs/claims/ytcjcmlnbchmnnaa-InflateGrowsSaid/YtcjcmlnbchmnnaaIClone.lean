/- Plain: bits laid in bytes one by one, the lowest of each byte first (no program in sight). · Bytes appended to a row that the call owns: a few of them, a string's (steps of a walk). · farrierlaw09's row: put, byte, begin: their contracts. · (*inflate.Reader).Clone: its contract. · Two inflate Readers side by side, each in memory of its own: what the one's Write leaves of the other. -/
import Derived.Test.YtcjcmlnbchmnnaaImE
import Derived.Test.YtcjcmlnbchmnnaaIHist
import Derived.Lib.AppendStr
import Derived.BigRegion
import Derived.Test.YtcjcmlnbchmnnaaGTail
import Derived.Test.YtcjcmlnbchmnnaaIStep
/-! ### ImRow -/
namespace Go.Proofs.Ytcjcmlnbchmnnaa.Im

/-- the bytes of bits -/
structure Bytes (l : List UInt8) (bits : List Nat) : Prop where
  len : l.length = (bits.length + 7) / 8
  bit : ∀ k, k < 8 * l.length → Hm.bitOf l k = bits.getD k 0
/-- there is room for one more -/
structure Room (l : List UInt8) (bits : List Nat) : Prop where
  len : l.length = bits.length / 8 + 1
  bit : ∀ k, k < 8 * l.length → Hm.bitOf l k = bits.getD k 0
theorem Bytes.nil : Bytes [] [] := ⟨rfl, fun k h => by simp at h⟩
theorem Bytes.room_on {l : List UInt8} {bits : List Nat} (h : Bytes l bits) (h8 : bits.length % 8 ≠ 0) : Room l bits := ⟨by rw [h.len]; omega, h.bit⟩
theorem Bytes.room_new {l : List UInt8} {bits : List Nat} (h : Bytes l bits) (h8 : bits.length % 8 = 0) : Room (l ++ [0]) bits := by
  have hl := h.len
  refine ⟨by rw [List.length_append, hl]; simp; omega, fun k hk => ?_⟩
  rw [List.length_append] at hk
  simp only [List.length_cons, List.length_nil] at hk
  by_cases hlt : k < 8 * l.length
  · rw [bitOf_app (by omega)]; exact h.bit k hlt
  · have e1 : Hm.bitOf (l ++ [0]) k = 0 := by
      unfold Hm.bitOf
      rw [List.getD_eq_getElem?_getD, List.getElem?_append_right (by omega), show k / 8 - l.length = 0 by omega]
      simp
    have e2 : bits.getD k 0 = 0 := by rw [List.getD_eq_getElem?_getD, List.getElem?_eq_none (by omega)]; rfl
    rw [e1, e2]
def lay (l : List UInt8) (n b : Nat) : List UInt8 := l.set (n / 8) (UInt8.ofNat ((l.getD (n / 8) 0).toNat ||| b * 2 ^ (n % 8)))
theorem or_bit (x b j i : Nat) (hb : b ≤ 1) : (x ||| b * 2 ^ j) / 2 ^ i % 2 = if i = j then (if b = 1 then 1 else x / 2 ^ i % 2) else x / 2 ^ i % 2 := by
  rw [← Nat.toNat_testBit, Nat.testBit_or, ← Nat.toNat_testBit x i]
  rcases (by omega : b = 0 ∨ b = 1) with rfl | rfl
  · rw [Nat.zero_mul, Nat.zero_testBit, Bool.or_false]; simp
  · rw [Nat.one_mul, Nat.testBit_two_pow]
    by_cases h : i = j
    · subst h; simp
    · have : ¬ j = i := fun q => h q.symm
      simp [h, this]
theorem or_lt (x b j : Nat) (hx : x < 256) (hb : b ≤ 1) (hj : j < 8) : x ||| b * 2 ^ j < 256 := by
  have h2 : 2 ^ j ≤ 2 ^ 7 := Nat.pow_le_pow_right (by omega) (by omega)
  refine Nat.or_lt_two_pow (n := 8) hx ?_
  rcases (by omega : b = 0 ∨ b = 1) with rfl | rfl <;> omega
theorem Room.lay {l : List UInt8} {bits : List Nat} (h : Room l bits) {b : Nat} (hb : b ≤ 1) : Bytes (lay l bits.length b) (bits ++ [b]) := by
  have hl := h.len
  have hll : (Im.lay l bits.length b).length = l.length := List.length_set
  refine ⟨by rw [hll, hl, List.length_append]; simp; omega, fun k hk => ?_⟩
  rw [hll] at hk
  have hx : (l.getD (bits.length / 8) 0).toNat < 256 := (l.getD (bits.length / 8) 0).toNat_lt
  have hbit := h.bit k hk
  by_cases h8 : k / 8 = bits.length / 8
  · have e1 : Hm.bitOf (Im.lay l bits.length b) k = ((l.getD (bits.length / 8) 0).toNat ||| b * 2 ^ (bits.length % 8)) / 2 ^ (k % 8) % 2 := by
      unfold Hm.bitOf Im.lay
      rw [h8, List.getD_eq_getElem?_getD, List.getElem?_set_self (by omega), Option.getD_some, UInt8.toNat_ofNat', Nat.mod_eq_of_lt (or_lt _ _ _ hx hb (by omega))]
    have e2 : (l.getD (bits.length / 8) 0).toNat / 2 ^ (k % 8) % 2 = Hm.bitOf l k := by unfold Hm.bitOf; rw [h8]
    rw [e1, or_bit _ _ _ _ hb, e2, hbit]
    by_cases hk8 : k % 8 = bits.length % 8
    · have hkk : k = bits.length := by omega
      have e3 : bits.getD k 0 = 0 := by rw [List.getD_eq_getElem?_getD, List.getElem?_eq_none (by omega)]; rfl
      have e4 : (bits ++ [b]).getD k 0 = b := by rw [hkk, List.getD_eq_getElem?_getD, List.getElem?_append_right (Nat.le_refl _)]; simp
      rw [if_pos hk8, e3, e4]
      split <;> omega
    · rw [if_neg hk8, List.getD_eq_getElem?_getD, List.getD_eq_getElem?_getD]
      by_cases hlt : k < bits.length
      · rw [List.getElem?_append_left hlt]
      · rw [List.getElem?_eq_none (by omega), List.getElem?_eq_none (by rw [List.length_append]; simp; omega)]
  · have e1 : Hm.bitOf (Im.lay l bits.length b) k = Hm.bitOf l k := by
      unfold Hm.bitOf Im.lay
      rw [List.getD_eq_getElem?_getD, List.getElem?_set_ne (fun q => h8 q.symm), ← List.getD_eq_getElem?_getD]
    rw [e1, hbit, List.getD_eq_getElem?_getD, List.getD_eq_getElem?_getD]
    by_cases hlt : k < bits.length
    · rw [List.getElem?_append_left hlt]
    · rw [List.getElem?_eq_none (by omega), List.getElem?_eq_none (by rw [List.length_append]; simp; omega)]
/-- what follows does not matter -/
theorem Bytes.at {l : List UInt8} {bits : List Nat} (h : Bytes l bits) (t : List UInt8) : At (l ++ t) 0 bits := fun k x hk => by
  have hlt : k < bits.length := (List.getElem?_eq_some_iff.1 hk).1
  have hl := h.len
  rw [Nat.zero_add]
  refine ⟨?_, by rw [List.length_append]; omega⟩
  rw [bitOf_app (by omega), h.bit k (by omega), List.getD_eq_getElem?_getD, hk]
  rfl
theorem codeBits_next (c L j : Nat) (hj : j < L) : (codeBits c L).take (L - (j + 1)) ++ [c / 2 ^ j % 2] = (codeBits c L).take (L - j) := by
  have hl := codeBits_length c L
  have e : L - j = L - (j + 1) + 1 := by omega
  rw [e, List.take_add_one, codeBits_get (by omega), show L - 1 - (L - (j + 1)) = j by omega]
  rfl
end Go.Proofs.Ytcjcmlnbchmnnaa.Im
/-! ### IApp -/
namespace Go.Proofs.Ytcjcmlnbchmnnaa
open Go.RowKit

theorem bytes_eq {a : ByteArray} {l : List UInt8} (h : a.data.toList = l) : a = ⟨l.toArray⟩ := by subst h; rfl
theorem bytes_same (a : ByteArray) : (⟨a.data.toList.toArray⟩ : ByteArray) = a := rfl
theorem strCells_bvals (s : ByteArray) : Lib.strCells s = bvals s.data.toList := by
  simp [Lib.strCells, bvals]
theorem wpList_str {ops : Array Oper} {rest : List Oper} {o : Oper} {a : Act} {Q : Exit → Act → World → Prop} {w : World} (hgd : o.guard = none) (sl x : Operand)
    (ho : o.op = .call { callee := .builtin .append, args := #[sl, x], argTypes := #[23, 9] }) (B : Nat) (v : Value) (l : List UInt8) (hs : a.eval sl = v) (hown : OutAt w B v l)
    (s : ByteArray) (hx : a.eval x = .string s) (hz : l.length + s.size ≤ 140737488355328) (hB : B ≤ w.heap.size)
    (h : ∀ v' w', OutAt w' B v' (l ++ s.data.toList) → w.grownBy w' v.ownBlock → wpList Try.prog ops Q rest (a.put o.dst v') w') : wpList Try.prog ops Q (o :: rest) a w := by
  obtain ⟨i0, hi, hz0, hz1, hz2⟩ := info_parts info_u8
  refine Lib.wpList_append_own_string w hgd sl x 23 9 ho B 5 i0 Try.underlying23 Try.underlying9 hi hz0 hz1 hz2 v l.length (bvals l) hs hown s hx (by unfold maxLen; omega) hz hB ?_
  intro v' w' h1 h2 _
  refine h v' w' ?_ h2
  unfold OutAt
  rw [List.length_append, bvals_append, blen, ← strCells_bvals]
  exact h1
theorem wpList_lit {ops : Array Oper} {rest : List Oper} {o : Oper} {a : Act} {Q : Exit → Act → World → Prop} {w : World} (hgd : o.guard = none) (sl x : Operand)
    (ho : o.op = .call { callee := .builtin .append, args := #[sl, x], argTypes := #[23, 23] }) (B : Nat) (v : Value) (l : List UInt8) (hs : a.eval sl = v) (vs : Array Value) (m : Nat)
    (hown : OutAt w B v l) (hx : a.eval x = .slice (some ⟨w.heap.size, 0, none⟩) m m) (news : List UInt8) (hn : vs.toList = bvals news) (hm : news.length = m) (hz : l.length + m ≤ 140737488355328) (hB : B ≤ w.heap.size)
    (h : ∀ v' w', OutAt w' B v' (l ++ news) → (w.alloc (.cells vs 5)).grownBy w' v.ownBlock → wpList Try.prog ops Q rest (a.put o.dst v') w') : wpList Try.prog ops Q (o :: rest) a (w.alloc (.cells vs 5)) := by
  obtain ⟨i0, hi, hz0, hz1, hz2⟩ := info_parts info_u8
  refine wpList_append_own _ hgd sl x 23 ho B 5 i0 (.int .u8 0) 1 1 Try.underlying23 hi hz0 hz1 hz2 rfl (by decide) v l.length (bvals l) hs (own_below hown ((Below.refl _ w).alloc (Nat.le_refl _) _)) ⟨w.heap.size, 0, none⟩ m m (bvals news) hx (by rw [bvals_length, hm, Nat.mul_one]) ?c1 (bvals_one' _) (by unfold maxLen; omega) (by omega) (Nat.le_trans hB (by simp)) ?_
  case c1 => exact new_bytes _ _ _ _ hn
  intro v' w' h1 h2 _
  refine h v' w' ?_ h2
  unfold OutAt
  rw [List.length_append, bvals_append, hm]
  exact h1
/-- bytes that a call has made, and nothing else has changed -/
structure Made (w0 w : World) (v : Value) (l : List UInt8) : Prop where
  out : OutAt w w0.heap.size v l
  bel : Below w0.heap.size w0 w
theorem Made.below {w0 w w' : World} {v : Value} {l : List UInt8} (h : Made w0 w v l) (hb : Below w.heap.size w w') : Made w0 w' v l := ⟨h.out.below hb, belThen h.bel hb⟩
theorem wpList_strM {ops : Array Oper} {rest : List Oper} {o : Oper} {a : Act} {Q : Exit → Act → World → Prop} {w : World} (hgd : o.guard = none) (sl x : Operand)
    (ho : o.op = .call { callee := .builtin .append, args := #[sl, x], argTypes := #[23, 9] }) (w0 : World) (v : Value) (l : List UInt8) (hs : a.eval sl = v)
    (s : ByteArray) (hx : a.eval x = .string s) (hown : Made w0 w v l) (hz : l.length + s.size ≤ 140737488355328)
    (h : ∀ v' w', Made w0 w' v' (l ++ s.data.toList) → wpList Try.prog ops Q rest (a.put o.dst v') w') : wpList Try.prog ops Q (o :: rest) a w :=
  wpList_str hgd sl x ho w0.heap.size v l hs hown.out s hx hz hown.bel.size fun v' w' h1 h2 => h v' w' ⟨h1, hown.bel.grown h2 hown.bel.size fun g hg => (OutAt.row hown.out g hg).1⟩
theorem wpList_litM {ops : Array Oper} {rest : List Oper} {o : Oper} {a : Act} {Q : Exit → Act → World → Prop} {w : World} (hgd : o.guard = none) (sl x : Operand)
    (ho : o.op = .call { callee := .builtin .append, args := #[sl, x], argTypes := #[23, 23] }) (w0 : World) (v : Value) (l : List UInt8) (hs : a.eval sl = v) (vs : Array Value) (m : Nat)
    (hx : a.eval x = .slice (some ⟨w.heap.size, 0, none⟩) m m) (hown : Made w0 w v l) (news : List UInt8) (hn : vs.toList = bvals news) (hm : news.length = m) (hz : l.length + m ≤ 140737488355328)
    (h : ∀ v' w', Made w0 w' v' (l ++ news) → wpList Try.prog ops Q rest (a.put o.dst v') w') : wpList Try.prog ops Q (o :: rest) a (w.alloc (.cells vs 5)) :=
  wpList_lit hgd sl x ho w0.heap.size v l hs vs m hown.out hx news hn hm hz hown.bel.size fun v' w' h1 h2 => h v' w' ⟨h1, (hown.bel.alloc hown.bel.size _).grown h2 (Nat.le_trans hown.bel.size (by simp)) fun g hg => (OutAt.row hown.out g hg).1⟩
theorem lit_one (n : Nat) : (.int .u8 ((n : Int) % 256) : Value) = .int .u8 ((UInt8.ofNat n).toNat : Int) := by rw [mod_byte]
end Go.Proofs.Ytcjcmlnbchmnnaa
/-! ### IPut -/
namespace Go.Proofs.Ytcjcmlnbchmnnaa
open Go.RowKit

/-- a row's two fields -/
def RowCells (w : World) (P : Nat) (v : Value) (n : Nat) : Prop := w.heap[P]? = some (.cells #[v, .int .i64 (n : Int)] 54 (0, 0))
/-- a row that the call made, and its bits -/
structure RowAt (w0 w : World) (P : Nat) (bits : List Nat) : Prop where
  row : ∃ v l, RowCells w P v bits.length ∧ Made w0 w v l ∧ Im.Bytes l bits
  own : w0.heap.size ≤ P
/-- .. there is room for one more -/
structure RoomAt (w0 w : World) (P : Nat) (bits : List Nat) : Prop where
  row : ∃ g cap l, RowCells w P (.slice (some ⟨g, 0, none⟩) l.length cap) bits.length ∧ Made w0 w (.slice (some ⟨g, 0, none⟩) l.length cap) l ∧ Im.Room l bits
  own : w0.heap.size ≤ P
theorem RowCells.ne {w : World} {P n k : Nat} {v : Value} (h : RowCells w P v n) (hk : ByteRow w k) : P ≠ k := by
  rintro rfl
  obtain ⟨cur, hc⟩ := hk
  unfold RowCells at h
  rw [h] at hc
  injection hc with hc
  injection hc with _ hc
  exact absurd hc (by decide)
theorem RowCells.c0 {w : World} {P n : Nat} {v : Value} (h : RowCells w P v n) : w.cell? ⟨P, 0, none⟩ = some v := cell_of_row _ _ _ _ _ _ h
theorem RowCells.c1 {w : World} {P n : Nat} {v : Value} (h : RowCells w P v n) : w.cell? ⟨P, 1, none⟩ = some (.int .i64 (n : Int)) := cell_of_row _ _ _ _ _ _ h
theorem RowCells.fz {w : World} {P n : Nat} {v : Value} (h : RowCells w P v n) (i : Nat) : w.frozen? ⟨P, i, none⟩ = false := frozen_of_row _ _ _ _ _ h
theorem RowCells.lt {w : World} {P n : Nat} {v : Value} (h : RowCells w P v n) : P < w.heap.size := lt_of_block h
theorem RowCells.grown {w w' : World} {P n B : Nat} {v u : Value} {l : List UInt8} (h : RowCells w P v n) (ho : OutAt w B u l) (g : w.grownBy w' u.ownBlock) : RowCells w' P v n := by
  unfold RowCells
  rw [g.block P h.lt (fun e => h.ne (ho.row P e.symm).2 rfl)]
  exact h
theorem RowCells.below {w w' : World} {P n : Nat} {v : Value} (h : RowCells w P v n) (hb : Below w.heap.size w w') : RowCells w' P v n := by unfold RowCells; rw [hb.block P h.lt]; exact h
theorem RowCells.set0 {w : World} {P n : Nat} {v : Value} (h : RowCells w P v n) (u : Value) : RowCells (w.setCell ⟨P, 0, none⟩ u) P u n := heap_setCell_same w P 0 _ _ u h
theorem RowCells.set1 {w : World} {P n : Nat} {v : Value} (h : RowCells w P v n) (m : Nat) : RowCells (w.setCell ⟨P, 1, none⟩ (.int .i64 (m : Int))) P v m := heap_setCell_same w P 1 _ _ _ h
theorem OutAt.setOther {w : World} {B P : Nat} {v : Value} {l : List UInt8} (h : OutAt w B v l) (hP : ∀ k, ByteRow w k → P ≠ k) (i : Nat) (u : Value) : OutAt (w.setCell ⟨P, i, none⟩ u) B v l :=
  h.kept fun g hg => heap_setCell_other w ⟨P, i, none⟩ g u (fun e => hP g hg e.symm)
theorem Made.setRow {w0 w : World} {P n : Nat} {v u : Value} {l : List UInt8} (h : Made w0 w v l) (hr : RowCells w P u n) (hP : w0.heap.size ≤ P) (i : Nat) (x : Value) : Made w0 (w.setCell ⟨P, i, none⟩ x) v l :=
  ⟨h.out.setOther (fun _ hk => hr.ne hk) i x, h.bel.setCell (by exact hP) x⟩
theorem put_byte (x : UInt8) (code j n : Nat) (hc : code < 4294967296) : bits BinOp.or IntKind.u8 (x.toNat : Int) (wrap64 (bits BinOp.and IntKind.i64 ((code : Int) / 2 ^ j) 1 * 2 ^ (n % 8)) % 256) = ((UInt8.ofNat (x.toNat ||| code / 2 ^ j % 2 * 2 ^ (n % 8))).toNat : Int) := by
  have hx := x.toNat_lt
  have hlt := Im.or_lt x.toNat (code / 2 ^ j % 2) (n % 8) hx (by omega) (by omega)
  have e0 : ((code : Int) / 2 ^ j) = ((code / 2 ^ j : Nat) : Int) := by simp
  have e1 : bits BinOp.and IntKind.i64 ((code : Int) / 2 ^ j) 1 = ((code / 2 ^ j % 2 : Nat) : Int) := by
    rw [e0]
    have hcj : code / 2 ^ j < 9223372036854775808 := Nat.lt_of_le_of_lt (Nat.div_le_self _ _) (by omega)
    have := bits_and_i64 (code / 2 ^ j) 1 hcj (by omega)
    rw [Nat.and_one_is_mod, show ((1 : Nat) : Int) = 1 from rfl] at this
    rw [this]
  have hp : 2 ^ (n % 8) ≤ 2 ^ 7 := Nat.pow_le_pow_right (by omega) (by omega)
  have hb2 : code / 2 ^ j % 2 * 2 ^ (n % 8) < 256 := by
    rcases (by omega : code / 2 ^ j % 2 = 0 ∨ code / 2 ^ j % 2 = 1) with e | e <;> rw [e] <;> omega
  have e3 : (((code / 2 ^ j % 2 : Nat) : Int) * 2 ^ (n % 8)) = ((code / 2 ^ j % 2 * 2 ^ (n % 8) : Nat) : Int) := by rw [Int.natCast_mul, Int.natCast_pow]; rfl
  rw [e1, e3]
  have e4 : wrap64 ((code / 2 ^ j % 2 * 2 ^ (n % 8) : Nat) : Int) % 256 = ((code / 2 ^ j % 2 * 2 ^ (n % 8) : Nat) : Int) := by
    generalize code / 2 ^ j % 2 * 2 ^ (n % 8) = y at hb2
    rw [show wrap64 (y : Int) = (y : Int) from by unfold wrap64; omega]
    omega
  rw [e4, u8_or_nat _ _ hx hb2, UInt8.toNat_ofNat', Nat.mod_eq_of_lt hlt]
set_option maxRecDepth 100000 in
set_option maxHeartbeats 4000000 in
theorem put_row (w0 : World) (P : Nat) (bt : List Nat) (code L : Nat) (w : World) (h : RowAt w0 w P bt) (hc : code < 4294967296) (hL : L ≤ 16) (hb : bt.length ≤ 4294967296) :
    Calls Try.prog 34 #[.pointer (some ⟨P, 0, none⟩), .int .i64 (code : Int), .int .i64 (L : Int)] w fun o w' => o = .returned (.tuple #[]) ∧ RowAt w0 w' P (bt ++ Im.codeBits code L) := by
  go_enter Try.func34, Try.ntmps34
  go_wp2_with fail
  go_loopw [6] (fun i wr => ∃ j : Nat, j ≤ L ∧ i = .int .i64 ((j : Int) - 1) ∧ RowAt w0 wr P (bt ++ (Im.codeBits code L).take (L - j))) (fun i _ => (intOf i + 1).toNat)
  case atStart => exact ⟨L, Nat.le_refl _, rfl, by rw [Nat.sub_self, List.take_zero, List.append_nil]; exact h⟩
  case round =>
    clear h
    obtain ⟨j, hj, rfl, hr⟩ := hrel
    cases j with
    | zero =>
      rw [Nat.sub_zero, List.take_of_length_le (by rw [Im.codeBits_length]; exact Nat.le_refl _)] at hr
      have HR := Lib.hid hr
      clear hr
      go_wp2_with fail
      go_end0
      exact ⟨rfl, HR.out⟩
    | succ j =>
      have ej : (((j + 1 : Nat) : Int) - 1) = (j : Int) := by omega
      rw [ej]
      have hnx := Im.codeBits_next code L j (by omega)
      have hlen : (bt ++ (Im.codeBits code L).take (L - (j + 1))).length ≤ 4294967312 := by rw [List.length_append, List.length_take, Im.codeBits_length]; omega
      have hnx2 : (bt ++ (Im.codeBits code L).take (L - (j + 1))) ++ [code / 2 ^ j % 2] = bt ++ (Im.codeBits code L).take (L - j) := by rw [List.append_assoc, hnx]
      generalize bt ++ (Im.codeBits code L).take (L - (j + 1)) = bs at *
      replace hnx2 := Lib.hid hnx2
      clear hnx
      have q0 : decide ((0 : Int) ≤ (j : Int)) = true := decide_eq_true (by omega)
      obtain ⟨⟨v, l, hrc, hm, hby⟩, hP⟩ := hr
      have k0 := hrc.c0
      have k1 := hrc.c1
      have f0 := hrc.fz 0
      go_upto_if 18 with fail
      go_cut [] from 9 to 58 (fun wx => RoomAt w0 wx P bs)
      case first =>
        by_cases h8 : bs.length % 8 = 0
        · have q1 : ((bs.length : Int) % 8 == 0) = true := by simp; omega
          have hro := Lib.hid (hby.room_new h8)
          have hmm := Lib.hid hm
          have hrcc := Lib.hid hrc
          have hll := hby.len
          have hlb : l.length + 1 ≤ 140737488355328 := by omega
          have HN := Lib.hid (show #[Value.int .u8 0].toList = bvals [0] from rfl)
          clear hm hrc hby h8 hll
          go_wp2_with (at_builtin; go_loud (refine wpList_lit rfl _ _ rfl w0.heap.size v l rfl _ 1 hmm.out.out rfl ?pe ?pf ?pg ?ph ?pi ?pj; (case pf => exact HN.out); (case pg => exact rfl); (case ph => exact hlb); (case pi => exact hmm.out.bel.size)); intro v2 w2 ho2 hg2; obtain ⟨a5, cap5, ev, hnn⟩ := ho2.slice; subst ev; replace hnn := Lib.hid hnn; have hm2 : Made w0 w2 _ (l ++ [0]) := ⟨ho2, (hmm.out.bel.alloc hmm.out.bel.size _).grown hg2 (Nat.le_trans hmm.out.bel.size (by simp)) fun g hg => (OutAt.row hmm.out.out g hg).1⟩; have hrc2 : RowCells w2 P v bs.length := (hrcc.out.below ((Below.refl _ _).alloc (Nat.le_refl _) _)).grown (hmm.out.out.below ((Below.refl _ _).alloc (Nat.le_refl _) _)) hg2; have k0' := hrc2.c0; have f0' := hrc2.fz 0; replace hm2 := Lib.hid hm2; replace hrc2 := Lib.hid hrc2; clear ho2 hg2)
          go_meet
          rcases hnn.out with ⟨_, hnn⟩ | ⟨g, rfl⟩
          · exact absurd (congrArg List.length hnn) (by simp)
          · have e1 : l.length + 1 = (l ++ [0]).length := by simp
            rw [e1]
            exact ⟨⟨g, cap5, _, hrc2.out.set0 _, hm2.out.setRow hrc2.out hP 0 _, hro.out⟩, hP⟩
        · have q1 : ((bs.length : Int) % 8 == 0) = false := by simp; omega
          have hro := hby.room_on h8
          have HC : Hid (RoomAt w0 wr P bs) := by
            obtain ⟨a5, cap5, ev, hnn⟩ := hm.out.slice
            rcases hnn with ⟨_, hnn⟩ | ⟨g, rfl⟩
            · have := hro.len; rw [hnn] at this; simp at this
            · rw [ev] at hrc hm
              exact Lib.hid ⟨⟨g, cap5, _, hrc, hm, hro⟩, hP⟩
          clear hm hrc hby h8
          go_wp2_with fail
          go_meet
          exact HC.out
      case rest =>
        clear k0 k1 f0 hrc hm hby
        obtain ⟨⟨g, cap, l1, hrc, hm, hro⟩, _⟩ := hcut
        have k0 := hrc.c0
        have k1 := hrc.c1
        have f1 := hrc.fz 1
        have hl := hro.len
        have d0 : (0 : Int) ≤ (bs.length : Int) / 8 := by omega
        have d1 : (bs.length : Int) / 8 < (l1.length : Int) := by omega
        have d2 : ((bs.length : Int) / 8).toNat = bs.length / 8 := by omega
        go_upto_region 5 with fail
        have hx : ∃ x : UInt8, l1[bs.length / 8]? = some x := ⟨_, List.getElem?_eq_getElem (by omega)⟩
        obtain ⟨x, hx⟩ := hx
        have hcx : wc.cell? ⟨g, bs.length / 8, none⟩ = some (.int .u8 (x.toNat : Int)) := by
          obtain ⟨y, e1, e2⟩ := cell_own hm.out (bs.length / 8) (by omega)
          rw [hx] at e1
          injection e1 with e1
          rw [e1]; exact e2
        have hfx : wc.frozen? ⟨g, bs.length / 8, none⟩ = false := World.ownsRow.frozenAt hm.out _
        go_region
        rw [put_byte x code j bs.length hc]
        have hll : (Im.lay l1 bs.length (code / 2 ^ j % 2)).length = l1.length := List.length_set
        have hlx : Im.lay l1 bs.length (code / 2 ^ j % 2) = l1.set (bs.length / 8) (UInt8.ofNat (x.toNat ||| code / 2 ^ j % 2 * 2 ^ (bs.length % 8))) := by
          unfold Im.lay
          rw [List.getD_eq_getElem?_getD, hx]
          rfl
        have hby := hro.lay (b := code / 2 ^ j % 2) (by omega)
        have hgb : w0.heap.size ≤ g := (OutAt.row hm.out g rfl).1
        have hgr : ByteRow wc g := (OutAt.row hm.out g rfl).2
        have hgw : Made w0 (wc.setCell ⟨g, bs.length / 8, none⟩ (.int .u8 ((UInt8.ofNat (x.toNat ||| code / 2 ^ j % 2 * 2 ^ (bs.length % 8))).toNat : Int))).drew (.slice (some ⟨g, 0, none⟩) l1.length cap) (Im.lay l1 bs.length (code / 2 ^ j % 2)) := by
          refine ⟨?_, (hm.bel.setCell (by exact hgb) _).drew⟩
          unfold OutAt
          rw [hll, hlx]
          exact stored_own hm.out _ _
        have hrw : RowCells (wc.setCell ⟨g, bs.length / 8, none⟩ (.int .u8 ((UInt8.ofNat (x.toNat ||| code / 2 ^ j % 2 * 2 ^ (bs.length % 8))).toNat : Int))).drew P (.slice (some ⟨g, 0, none⟩) l1.length cap) bs.length := by
          have := heap_setCell_other wc ⟨g, bs.length / 8, none⟩ P (.int .u8 ((UInt8.ofNat (x.toNat ||| code / 2 ^ j % 2 * 2 ^ (bs.length % 8))).toNat : Int)) (hrc.ne hgr)
          unfold RowCells at hrc ⊢
          rw [← hrc]
          exact this
        generalize (wc.setCell ⟨g, bs.length / 8, none⟩ (.int .u8 ((UInt8.ofNat (x.toNat ||| code / 2 ^ j % 2 * 2 ^ (bs.length % 8))).toNat : Int))).drew = wd at *
        generalize Im.lay l1 bs.length (code / 2 ^ j % 2) = l2 at *
        have hbl : bs.length ≤ 4294967312 := hlen
        clear k0 k1 f1 hcx hfx hrc hm hro hl hx d0 d1 d2 hlx hgr hgb
        have k1 := hrw.c1
        have f1 := hrw.fz 1
        have HB : Hid (RowAt w0 (wd.setCell ⟨P, 1, none⟩ (.int .i64 ((bs.length + 1 : Nat) : Int))) P (bt ++ (Im.codeBits code L).take (L - j))) := by
          have e2 := hnx2.out
          refine Lib.hid ⟨⟨_, l2, ?_, (hgw.setRow hrw hP 1 _), by rw [← e2]; exact hby⟩, hP⟩
          have e3 : (bt ++ (Im.codeBits code L).take (L - j)).length = bs.length + 1 := by rw [← e2]; simp
          rw [e3]
          exact hrw.set1 _
        clear hgw hrw hby hnx2 hll
        have e9 : IntKind.i64.wrap ((bs.length : Int) + 1) = ((bs.length + 1 : Nat) : Int) := by rw [IntWalk.i64_in _ (by omega)]; omega
        go_wp2_with fail
        go_roundw
        case rel => exact ⟨j, by omega, by go_num, HB.out⟩
        case measure => simp [intOf]
theorem byte_row (w0 : World) (P : Nat) (bt : List Nat) (c : UInt8) (w : World) (h : RowAt w0 w P bt) (hb : bt.length ≤ 4294967296) :
    Calls Try.prog 33 #[.pointer (some ⟨P, 0, none⟩), .int .i64 (c.toNat : Int)] w fun o w' => o = .returned (.tuple #[]) ∧ RowAt w0 w' P (bt ++ Im.litBits c.toNat) := by
  have hc := c.toNat_lt
  have hcode := Im.fixLit_code c.toNat (by omega)
  have hlen := Im.fixLit_len c.toNat (by omega)
  by_cases h1 : c.toNat < 144
  · rw [if_pos h1] at hcode hlen
    have HP := Lib.hid (put_row w0 P bt (48 + c.toNat) 8 w h (by omega) (by omega) hb)
    have e1 : ((48 + c.toNat : Nat) : Int) = 48 + (c.toNat : Int) := by omega
    have e2 : ((8 : Nat) : Int) = 8 := rfl
    rw [e1, e2] at HP
    have e3 : Im.litBits c.toNat = Im.codeBits (48 + c.toNat) 8 := by unfold Im.litBits; rw [hcode, hlen]
    rw [e3]
    have q : decide ((c.toNat : Int) < 144) = true := by simp; omega
    clear h hcode hlen e3 e1 e2
    generalize c.toNat = x at *
    go_enter Try.func33, Try.ntmps33
    go_wp2_with (go_at_call 34; refine HP.out.mono ?_; rintro o w' ⟨rfl, hr⟩)
    go_end0
    exact ⟨rfl, hr⟩
  · rw [if_neg h1, if_pos (by omega)] at hcode hlen
    have HP := Lib.hid (put_row w0 P bt (400 + (c.toNat - 144)) 9 w h (by omega) (by omega) hb)
    have e1 : ((400 + (c.toNat - 144) : Nat) : Int) = 400 + (c.toNat : Int) - 144 := by omega
    have e2 : ((9 : Nat) : Int) = 9 := rfl
    rw [e1, e2] at HP
    have e3 : Im.litBits c.toNat = Im.codeBits (400 + (c.toNat - 144)) 9 := by unfold Im.litBits; rw [hcode, hlen]
    rw [e3]
    have q : decide ((c.toNat : Int) < 144) = false := by simp; omega
    clear h hcode hlen e3 e1 e2
    generalize c.toNat = x at *
    go_enter Try.func33, Try.ntmps33
    go_wp2_with (go_at_call 34; refine HP.out.mono ?_; rintro o w' ⟨rfl, hr⟩)
    go_end0
    exact ⟨rfl, hr⟩
theorem begin_row (w : World) :
    Calls Try.prog 32 #[] w fun o w' => o = .returned (.pointer (some ⟨w.heap.size, 0, none⟩)) ∧ RowAt w w' w.heap.size [1, 1, 0] := by
  have hr0 : RowAt w (w.alloc (.cells #[.slice none 0 0, .int .i64 0] 54)) w.heap.size [] :=
    ⟨⟨_, [], heap_alloc_new w _, ⟨OutAt.nil _ _, (Below.refl _ w).alloc (Nat.le_refl _) _⟩, Im.Bytes.nil⟩, Nat.le_refl _⟩
  have HP := fun bt code L w' h h1 h2 h3 => Lib.hid (put_row w w.heap.size bt code L w' h h1 h2 h3)
  have H1 := fun w' h => HP [] 1 1 w' h (by omega) (by omega) (by decide)
  have H2 := fun w' h => HP [1] 1 1 w' h (by omega) (by omega) (by decide)
  have H3 := fun w' h => HP [1, 1] 0 1 w' h (by omega) (by omega) (by decide)
  have e1 : ([] : List Nat) ++ Im.codeBits 1 1 = [1] := rfl
  have e2 : ([1] : List Nat) ++ Im.codeBits 1 1 = [1, 1] := rfl
  have e3 : ([1, 1] : List Nat) ++ Im.codeBits 0 1 = [1, 1, 0] := rfl
  have e4 : ((1 : Nat) : Int) = 1 := rfl
  have e5 : ((0 : Nat) : Int) = 0 := rfl
  rw [e1, e4] at H1
  rw [e2, e4] at H2
  rw [e3, e4, e5] at H3
  clear HP e1 e2 e3 e4 e5
  replace hr0 := Lib.hid hr0
  go_enter Try.func32, Try.ntmps32
  go_upto_region 2 with fail
  have hr1 := hr0
  generalize w.alloc (.cells #[.slice none 0 0, .int .i64 0] 54) = w1 at *
  go_upto_region 3 with (go_at_call 34; refine (H1 _ hr0.out).out.mono ?_; rintro o w2 ⟨rfl, hr2⟩; replace hr2 := Lib.hid hr2)
  go_upto_region 4 with (go_at_call 34; refine (H2 _ hr2.out).out.mono ?_; rintro o w3 ⟨rfl, hr3⟩; replace hr3 := Lib.hid hr3)
  go_wp2_with (go_at_call 34; refine (H3 _ hr3.out).out.mono ?_; rintro o w4 ⟨rfl, hr4⟩; replace hr4 := Lib.hid hr4)
  go_ret
  exact ⟨rfl, hr4.out⟩
end Go.Proofs.Ytcjcmlnbchmnnaa
/-! ### IClone -/
namespace Go.Proofs.Ytcjcmlnbchmnnaa
open Go.RowKit

theorem wpList_bytes {ops : Array Oper} {rest : List Oper} {o : Oper} {a : Act} {Q : Exit → Act → World → Prop} {w : World} (hgd : o.guard = none) (s x : Operand)
    (ho : o.op = .call { callee := .builtin .append, args := #[s, x], argTypes := #[23, 23] }) (b0 : Nat) (v xv : Value) (l m : List UInt8) (hs : a.eval s = v) (hxv : a.eval x = xv) (hown : OutAt w b0 v l) (hx : ReadB w xv m) (hlen : l.length + m.length ≤ 140737488355328) (hb : b0 ≤ w.heap.size)
    (h : ∀ v' w', OutAt w' b0 v' (l ++ m) → w.grownBy w' v.ownBlock → wpList Try.prog ops Q rest (a.put o.dst v') w') : wpList Try.prog ops Q (o :: rest) a w := by
  refine wpList_plain hgd fun K hK => ?_
  obtain ⟨v', w', hrun, r1, r2, _⟩ := append_bytes 23 o.type Try.underlying23 hown hx hlen hb
  unfold Oper.wp
  simp [execOp, ho, resolve, invoke, builtin, hs, hxv, hrun, Result.andThen]
  exact hK _ _ (h v' w' r1 r2)
def ClonePost (most : Nat) (full : List UInt8) (c : Im.St) (w : World) (o : Ending) (w' : World) : Prop :=
  ∃ R2 bk2, o = .returned (.pointer (some ⟨R2, 0, none⟩)) ∧ HistB w' R2 bk2 most full c ∧ Below w.heap.size w w' ∧ w.heap.size ≤ R2 ∧ ∀ k, bk2 = some k → w.heap.size ≤ k
set_option maxRecDepth 100000 in
set_option maxHeartbeats 2000000 in
theorem clone_go (R : Nat) (bk : Option Nat) (most : Nat) (full : List UInt8) (c : Im.St) (w : World) (h : HistB w R bk most full c) :
    Calls Try.prog 35 #[.pointer (some ⟨R, 0, none⟩)] w (ClonePost most full c w) := by
  obtain ⟨r, a, k, hr, h1, h2, h3, h4, h5, _⟩ := h
  have gR := hr.st.at_
  have HS := Lib.hid (cells_size r)
  have HZ := Lib.hid info_rd
  have HO := Lib.hid hr.st.cells_one
  have gz : RdAt (w.alloc (.cells #[.string ⟨#[]⟩, .int .i64 0, .int .i64 0, .bool false, .int .i64 0, .pointer none, .pointer none, .slice none 0 0, .slice none 0 0, .int .i64 0, .int .i64 0, .int .i64 0] 69)) R r := gR.alloc _
  go_enter Try.func35, Try.ntmps35
  go_upto_region 2 with (first | ((with_reducible show wpList _ _ _ (⟨some 6, _, _, _, _, _⟩ :: _) _ _); refine wpList_load_row rfl 69 _ rfl R rfl 69 r.cells (0, 0) _ gR Try.underlying69 rfl HZ.out ?_) | ((with_reducible show wpList _ _ _ (⟨none, .store 69 _ _, _, _, _, _⟩ :: _) _ _); refine wpList_store_row rfl 69 _ _ rfl w.heap.size r.cells rfl rfl 69 _ (heap_alloc_new _ _) HZ.out (by rw [HS.out]; rfl) HO.out ?_))
  have hB : Below w.heap.size w ((w.alloc (.cells #[.string ⟨#[]⟩, .int .i64 0, .int .i64 0, .bool false, .int .i64 0, .pointer none, .pointer none, .slice none 0 0, .slice none 0 0, .int .i64 0, .int .i64 0, .int .i64 0] 69)).setRow w.heap.size r.cells) := belSetRow ((Below.refl w.heap.size w).alloc (Nat.le_refl _) _) (g := w.heap.size) (Nat.le_refl _) r.cells
  have gR2 : RdAt ((w.alloc (.cells #[.string ⟨#[]⟩, .int .i64 0, .int .i64 0, .bool false, .int .i64 0, .pointer none, .pointer none, .slice none 0 0, .slice none 0 0, .int .i64 0, .int .i64 0, .int .i64 0] 69)).setRow w.heap.size r.cells) w.heap.size r := setRow_heap _ w.heap.size _ _ 69 (0, 0) (heap_alloc_new _ _)
  generalize ((w.alloc (.cells #[.string ⟨#[]⟩, .int .i64 0, .int .i64 0, .bool false, .int .i64 0, .pointer none, .pointer none, .slice none 0 0, .slice none 0 0, .int .i64 0, .int .i64 0, .int .i64 0] 69)).setRow w.heap.size r.cells) = W at hB gR2 ⊢
  have gRW : RdAt W R r := gR.below hB
  have c7 := gRW.back
  have f7 := gR2.frozen 7
  have c7' := gR2.back
  have hrd : ReadB W r.back (lastN 32768 a.out) := (hr.st.back.1.below hB).reads
  have hlen : ([] : List UInt8).length + (lastN 32768 a.out).length ≤ 140737488355328 := by
    have := hr.st.out_le; have := hr.st.most_le; simp [lastN]; omega
  have hbs := hB.size
  have hnew : ∀ v' w1, OutAt w1 w.heap.size v' ([] ++ lastN 32768 a.out) → W.grownBy w1 (Value.slice none 0 0).ownBlock → RdAt w1 w.heap.size r → ClonePost most full c w (.returned (.pointer (some ⟨w.heap.size, 0, none⟩))) (w1.setCell ⟨w.heap.size, 7, none⟩ v') := by
    intro v' w1 ho hg hR1
    have hf1 : Fr (fun _ => False) w w1 := (Fr.of_below hB).grown hg (fun k hk => by simp [Value.ownBlock] at hk)
    have hb1 : Below w.heap.size w w1 := hf1.to_below (Nat.le_refl _) (fun k q => q.elim)
    have hb2 : Below w.heap.size w (w1.setCell ⟨w.heap.size, 7, none⟩ v') := hb1.setCell (Nat.le_refl _) _
    have hRs := hr.frS (S := fun _ => False) (Fr.of_below hb2) (fun q => q) (fun _ _ q => q) (fun _ q => q.elim)
    have hR2 : RdAt (w1.setCell ⟨w.heap.size, 7, none⟩ v') w.heap.size { r with back := v' } := hR1.set 7 v' rfl
    have ho2 : OutAt (w1.setCell ⟨w.heap.size, 7, none⟩ v') w.heap.size v' (lastN 32768 a.out) := by
      rw [List.nil_append] at ho
      exact ho.setOther (fun k ⟨cur, hk⟩ e => by subst e; unfold RdAt at hR1; rw [hk] at hR1; cases hR1) 7 v'
    refine ⟨w.heap.size, v'.ownBlock, rfl, ⟨{ r with back := v' }, a, k, ⟨{ at_ := hR2, bit := hr.st.bit, state := hr.st.state, last := hr.st.last, left := hr.st.left, told := hr.st.told, most_ := hr.st.most_, e := hr.st.e, out := hRs.st.out, back := ⟨ho2.base (Nat.zero_le _), fun k hk => ?_⟩, tabs := hRs.st.tabs, base := Nat.le_refl _, pos_le := hr.st.pos_le, size_le := hr.st.size_le, out_le := hr.st.out_le, most_le := hr.st.most_le, left_le := hr.st.left_le, state_le := hr.st.state_le, one := hr.st.one }, hr.out⟩, h1, h2, h3, h4, h5, rfl⟩, hb2, Nat.le_refl _, fun k hk => (ho2.row k hk).1⟩
    obtain ⟨_, cur, hc⟩ := ho2.row k hk
    exact lt_of_block hc
  clear hB gR gz hr h1 h2 h3 h4 h5
  go_wp2_with (refine wpList_bytes rfl (.const (.slice none 0 0)) (.tmp 10) rfl w.heap.size (.slice none 0 0) r.back [] (lastN 32768 a.out) (by rfl) (by rfl) (OutAt.nil _ _) hrd hlen hbs ?_; intro v' w1 ho hg; have hR1 := RdAt.grown gR2 (OutAt.nil _ w.heap.size) hg; have hfin := hnew v' w1 ho hg hR1; have k7 := hR1.back; have f7' := hR1.frozen 7; obtain ⟨a1, cap1, ev, ha1⟩ := ho.slice; subst ev)
  simp only [List.nil_append] at hfin
  exact bodyPost_ret (results_tmp (t := 2) rfl _ _ _) rfl hfin
end Go.Proofs.Ytcjcmlnbchmnnaa
/-! ### IGrow -/
namespace Go.Proofs.Ytcjcmlnbchmnnaa
open Go.RowKit

/-- a Reader's own blocks -/
def Blks (R : Nat) (bk : Option Nat) (k : Nat) : Prop := k = R ∨ bk = some k
/-- two Readers in memory of their own, all of it from block L on -/
structure Apart (L R : Nat) (bk : Option Nat) (R2 : Nat) (bk2 : Option Nat) : Prop where
  own : ∀ k, Blks R bk k → L ≤ k
  own2 : ∀ k, Blks R2 bk2 k → L ≤ k
  far : ∀ k, Blks R2 bk2 k → ¬ Blks R bk k
theorem HistB.bound {w : World} {R most : Nat} {bk : Option Nat} {full : List UInt8} {c : Im.St} (h : HistB w R bk most full c) : ∀ k, Blks R bk k → k < w.heap.size := by
  rintro k (rfl | hk)
  · exact h.lt
  · obtain ⟨cs, hc⟩ := h.rows.2 k hk
    exact lt_of_block hc
theorem grow_clone (L R : Nat) (bk : Option Nat) (most : Nat) (full : List UInt8) (c : Im.St) (w : World) (h : HistB w R bk most full c) (hL : ∀ k, Blks R bk k → L ≤ k) (hLw : L ≤ w.heap.size) :
    Calls Try.prog 35 #[.pointer (some ⟨R, 0, none⟩)] w fun o w1 => ∃ R2 bk2, o = .returned (.pointer (some ⟨R2, 0, none⟩)) ∧ HistB w1 R bk most full c ∧ HistB w1 R2 bk2 most full c ∧ Apart L R bk R2 bk2 ∧ Below w.heap.size w w1 := by
  refine (clone_go R bk most full c w h).mono ?_
  rintro o w1 ⟨R2, bk2, rfl, h2, hb, h3, h4⟩
  have hge : ∀ k, Blks R2 bk2 k → w.heap.size ≤ k := by
    rintro k (rfl | hk)
    · exact h3
    · exact h4 k hk
  exact ⟨R2, bk2, rfl, h.below hb, h2, ⟨hL, fun k hk => Nat.le_trans hLw (hge k hk), fun k hk q => by have := hge k hk; have := h.bound k q; omega⟩, hb⟩
theorem HistB.other {w w' : World} {L R most R2 most2 : Nat} {bk bk2 : Option Nat} {full F2 : List UInt8} {c c2 : Im.St} (h : HistB w R bk most full c) (h2 : HistB w R2 bk2 most2 F2 c2) (ha : Apart L R bk R2 bk2) (hf : Fr (fun k => k = R ∨ bk = Option.some k) w w') : HistB w' R2 bk2 most2 F2 c2 :=
  h2.frS hf (ha.far R2 (Or.inl rfl)) (fun k hk => ha.far k (Or.inr hk)) h.some
theorem Apart.symm {L R R2 : Nat} {bk bk2 : Option Nat} (h : Apart L R bk R2 bk2) : Apart L R2 bk2 R bk := ⟨h.own2, h.own, fun k hk q => h.far k q hk⟩
theorem grow_ok (L R : Nat) (bk : Option Nat) (R2 : Nat) (bk2 : Option Nat) (most : Nat) (full F2 : List UInt8) (c c2 c' : Im.St) (t : ByteArray) (w : World) (h : HistB w R bk most full c) (h2 : HistB w R2 bk2 most F2 c2) (ha : Apart L R bk R2 bk2) (hLw : L ≤ w.heap.size)
    (hs : full.length + t.size ≤ 281474976710656) (hrun : Im.Run (full ++ t.data.toList) most Im.start c' 0) :
    Calls Try.prog 29 #[.pointer (some ⟨R, 0, none⟩), .string t] w fun o w' => o = .returned (.tuple #[.string ⟨(c'.out.drop c.out.length).toArray⟩, .int .i64 0]) ∧ (∃ bk', HistB w' R bk' most (full ++ t.data.toList) c' ∧ Apart L R bk' R2 bk2) ∧ HistB w' R2 bk2 most F2 c2 ∧ Below L w w' := by
  refine (histB_write R bk most full c t w h hs).mono ?_
  rintro o w' ⟨c3, e3, k1, k2, k3⟩
  obtain ⟨rfl, rfl⟩ := k1.det hrun
  rcases k3 with ⟨k4, _⟩ | ⟨_, rfl, bk', k5, k6⟩
  · exact absurd rfl k4
  · refine ⟨rfl, ⟨bk', k5, ⟨?_, ha.own2, ?_⟩⟩, h.other h2 ha k2, k2.to_below hLw ha.own⟩
    · rintro k (rfl | hk)
      · exact ha.own k (Or.inl rfl)
      · exact Nat.le_trans hLw (k6 k hk)
    · rintro k hk (rfl | q)
      · exact ha.far k hk (Or.inl rfl)
      · have := k6 k q
        have := h2.bound k hk
        omega
theorem grow_bad (L R : Nat) (bk : Option Nat) (R2 : Nat) (bk2 : Option Nat) (most : Nat) (full F2 : List UInt8) (c c2 c' : Im.St) (e : Int) (t : ByteArray) (w : World) (h : HistB w R bk most full c) (h2 : HistB w R2 bk2 most F2 c2) (ha : Apart L R bk R2 bk2) (hLw : L ≤ w.heap.size)
    (hs : full.length + t.size ≤ 281474976710656) (hrun : Im.Run (full ++ t.data.toList) most Im.start c' e) (he : e ≠ 0) :
    Calls Try.prog 29 #[.pointer (some ⟨R, 0, none⟩), .string t] w fun o w' => o = .returned (.tuple #[.string ⟨#[]⟩, .int .i64 e]) ∧ Broken w' R e ∧ HistB w' R2 bk2 most F2 c2 ∧ Below L w w' := by
  refine (histB_write R bk most full c t w h hs).mono ?_
  rintro o w' ⟨c3, e3, k1, k2, k3⟩
  obtain ⟨rfl, rfl⟩ := k1.det hrun
  rcases k3 with ⟨_, rfl, k5⟩ | ⟨k4, _⟩
  · exact ⟨rfl, k5, h.other h2 ha k2, k2.to_below hLw ha.own⟩
  · exact absurd k4 he
/-- a Write's answer, whatever it is -/
def SomeAns (o : Ending) : Prop := ∃ v g, o = .returned (.tuple #[.string v, .int .i64 g])
/-- the clone's Write -/
theorem grow_left (L R : Nat) (bk : Option Nat) (R2 : Nat) (bk2 : Option Nat) (most : Nat) (F2 : List UInt8) (c2 : Im.St) (t : ByteArray) (w : World) (h2 : HistB w R2 bk2 most F2 c2) (ha : Apart L R bk R2 bk2) (hLw : L ≤ w.heap.size) (hs : F2.length + t.size ≤ 281474976710656) :
    Calls Try.prog 29 #[.pointer (some ⟨R2, 0, none⟩), .string t] w fun o w' => SomeAns o ∧ (∀ full c, HistB w R bk most full c → HistB w' R bk most full c) ∧ (∀ e, Broken w R e → Broken w' R e) ∧ Below L w w' := by
  refine (histB_write R2 bk2 most F2 c2 t w h2 hs).mono ?_
  rintro o w' ⟨c3, e3, k1, k2, k3⟩
  refine ⟨?_, fun full c h => h2.other h ha.symm k2, fun e ⟨r, hr, he⟩ => ⟨r, hr.fr k2 (fun q => ha.far R q (Or.inl rfl)), he⟩, k2.to_below hLw ha.own2⟩
  rcases k3 with ⟨_, rfl, _⟩ | ⟨_, rfl, _⟩
  · exact ⟨_, _, rfl⟩
  · exact ⟨_, _, rfl⟩
/-! the same memory -/
theorem TableAt.heap {w w' : World} {T : Nat} {ns : List Nat} (h : TableAt w T ns) (e : w'.heap = w.heap) : TableAt w' T ns := by
  obtain ⟨M, n, hcT, D, ⟨es, clock, q1, q2⟩, q3⟩ := h
  exact ⟨M, n, by rw [e]; exact hcT, D, ⟨es, clock, by rw [e]; exact q1, q2⟩, q3⟩
theorem HistB.heap {w w' : World} {R most : Nat} {bk : Option Nat} {full : List UInt8} {c : Im.St} (h : HistB w R bk most full c) (e : w'.heap = w.heap) : HistB w' R bk most full c := by
  obtain ⟨r, a, k, hr, h1, h2, h3, h4, h5, h6⟩ := h
  have htab : ∀ v ns, TabAt w v ns → TabAt w' v ns := fun v ns ⟨T, q1, q2, q3⟩ => ⟨T, q1, q2.heap e, q3⟩
  exact ⟨r, a, k, ⟨{ at_ := by have := hr.st.at_; unfold RdAt at this ⊢; rw [e]; exact this, bit := hr.st.bit, state := hr.st.state, last := hr.st.last, left := hr.st.left, told := hr.st.told, most_ := hr.st.most_, e := hr.st.e, out := ⟨[], by simp, by rw [hr.out]; exact OutAt.nil _ _⟩, back := ⟨hr.st.back.1.kept fun g _ => by rw [e], fun k hk => by rw [e]; exact hr.st.back.2 k hk⟩, tabs := fun q => ⟨htab _ _ (hr.st.tabs q).1, htab _ _ (hr.st.tabs q).2⟩, base := by rw [e]; exact Nat.le_refl _, pos_le := hr.st.pos_le, size_le := hr.st.size_le, out_le := hr.st.out_le, most_le := hr.st.most_le, left_le := hr.st.left_le, state_le := hr.st.state_le, one := hr.st.one }, hr.out⟩, h1, h2, h3, h4, h5, h6⟩
end Go.Proofs.Ytcjcmlnbchmnnaa
