/- farrierref08.Bit: its contract (as in RRead; for seats without farrierref08.Read). · The document's own reader of inflate (X) in memory; ok, wrong: their contracts. · Plain mathematics of layer 9: the document's own reader, step by step (no program in sight). · Plain mathematics of layer 9: the document's reader beside the model's run (no program in sight). · Plain mathematics of layer 9: an element, by the document's reader and by the model (no program in sight). · X.num: its contract. · The document's reader in memory, read as the plain one; ok, wrong, num: their contracts. · X.tell: its contract. · Plain mathematics of layer 8: codes laid as a tree in one row (no program in sight). · farrierref08.Tree: its contract. · farrierref08.ReadBy: its contract. · X.symbol: its contract. -/
import Derived.Test.YtcjcmlnbchmnnaaRead
import Derived.Test.YtcjcmlnbchmnnaaFr
import Derived.Test.YtcjcmlnbchmnnaaRd
import Derived.Test.YtcjcmlnbchmnnaaPl
import Derived.Test.YtcjcmlnbchmnnaaImE
import Derived.BigQuiet
import Derived.Test.YtcjcmlnbchmnnaaITell
import Derived.StillTailTactics
import Derived.Test.YtcjcmlnbchmnnaaCodes
/-! ### RBit -/
namespace Go.Proofs.Ytcjcmlnbchmnnaa
open Go.RowKit

theorem rbit_any (s : ByteArray) (bt : Nat) (w : World) (h : bt / 8 < s.size) (hs : s.size ≤ 281474976710656) :
    Calls Try.prog 62 #[.string s, .int .i64 bt] w fun e w' => e = .returned (.int .i64 (Hm.bitOf s.data.toList bt : Nat)) ∧ w = w' := by
  have hb := Cm.byte_lt s[bt / 8]
  have e0 : s.data.toList.getD (bt / 8) 0 = s[bt / 8] := by
    rw [List.getD_eq_getElem?_getD, List.getElem?_eq_getElem (by rw [Array.length_toList]; exact h)]; rfl
  have HV : Hid (bits BinOp.and IntKind.i64 ((s[bt / 8].toNat : Int) / 2 ^ (bt % 8)) 1 = (Hm.bitOf s.data.toList bt : Nat)) := by
    show _ = _
    unfold Hm.bitOf
    rw [e0]
    have e1 : (s[bt / 8].toNat : Int) / 2 ^ (bt % 8) = ((s[bt / 8].toNat / 2 ^ (bt % 8) : Nat) : Int) := by simp
    have hd := Nat.div_le_self s[bt / 8].toNat (2 ^ (bt % 8))
    rw [e1]
    generalize s[bt / 8].toNat / 2 ^ (bt % 8) = y at *
    have e2 := bits_and_i64 y 1 (by omega) (by omega)
    rw [nat_mask1] at e2
    exact e2
  clear e0
  have r2 : (0 : Int) ≤ (bt : Int) / 8 := by omega
  have r3 : (bt : Int) / 8 < (s.size : Int) := by omega
  go_enter Try.func62, Try.ntmps62
  go_wp2
  go_ret
  refine ⟨?_, rfl⟩
  rw [← HV.out]
  first | rfl | (congr 3; simp)
end Go.Proofs.Ytcjcmlnbchmnnaa
/-! ### X -/
namespace Go.Proofs.Ytcjcmlnbchmnnaa
open Go.RowKit

/-- X's fields -/
structure Rx where
  s : ByteArray
  bit : Int
  out : Value
  most : Int
  e : Int
  short : Bool
def Rx.cells (x : Rx) : Array Value := #[.string x.s, .int .i64 x.bit, x.out, .int .i64 x.most, .int .i64 x.e, .bool x.short]
def XAt (w : World) (X : Nat) (x : Rx) : Prop := w.heap[X]? = some (.cells x.cells 74 (0, 0))
theorem XAt.lt {w : World} {X : Nat} {x : Rx} (h : XAt w X x) : X < w.heap.size := lt_of_block h
theorem XAt.cell {w : World} {X : Nat} {x : Rx} (h : XAt w X x) (i : Nat) : w.cell? ⟨X, i, none⟩ = x.cells[i]? := cell_of_row _ _ _ _ _ _ h
theorem XAt.frozen {w : World} {X : Nat} {x : Rx} (h : XAt w X x) (i : Nat) : w.frozen? ⟨X, i, none⟩ = false := frozen_of_row _ _ _ _ _ h
theorem XAt.s {w : World} {X : Nat} {x : Rx} (h : XAt w X x) : w.cell? ⟨X, 0, none⟩ = some (.string x.s) := h.cell 0
theorem XAt.bit {w : World} {X : Nat} {x : Rx} (h : XAt w X x) : w.cell? ⟨X, 1, none⟩ = some (.int .i64 x.bit) := h.cell 1
theorem XAt.out {w : World} {X : Nat} {x : Rx} (h : XAt w X x) : w.cell? ⟨X, 2, none⟩ = some x.out := h.cell 2
theorem XAt.most {w : World} {X : Nat} {x : Rx} (h : XAt w X x) : w.cell? ⟨X, 3, none⟩ = some (.int .i64 x.most) := h.cell 3
theorem XAt.e {w : World} {X : Nat} {x : Rx} (h : XAt w X x) : w.cell? ⟨X, 4, none⟩ = some (.int .i64 x.e) := h.cell 4
theorem XAt.short {w : World} {X : Nat} {x : Rx} (h : XAt w X x) : w.cell? ⟨X, 5, none⟩ = some (.bool x.short) := h.cell 5
theorem XAt.drew {w : World} {X : Nat} {x : Rx} (h : XAt w X x) : XAt w.drew X x := h
theorem XAt.alloc {w : World} {X : Nat} {x : Rx} (h : XAt w X x) (o : Obj) : XAt (w.alloc o) X x := by unfold XAt; rw [Below.heap_alloc w o X h.lt]; exact h
theorem XAt.below {w w' : World} {X : Nat} {x : Rx} (h : XAt w X x) (hb : Below w.heap.size w w') : XAt w' X x := by unfold XAt; rw [hb.block X h.lt]; exact h
theorem XAt.fr {w w' : World} {X : Nat} {x : Rx} {S : Nat → Prop} (h : XAt w X x) (hf : Fr S w w') (hn : ¬ S X) : XAt w' X x := by unfold XAt; rw [hf.block X h.lt hn]; exact h
theorem XAt.set {w : World} {X : Nat} {x x' : Rx} (h : XAt w X x) (i : Nat) (v : Value) (e : x.cells.setIfInBounds i v = x'.cells) : XAt (w.setCell ⟨X, i, none⟩ v) X x' := by
  unfold XAt; rw [← e]; exact heap_setCell_same w X i _ _ v h
theorem XAt.setOther {w : World} {X : Nat} {x : Rx} (h : XAt w X x) {a : Addr} (ha : X ≠ a.block) (v : Value) : XAt (w.setCell a v) X x := by
  unfold XAt; rw [heap_setCell_other w a X v ha]; exact h
theorem XAt.grown {w w' : World} {X : Nat} {x : Rx} {B : Nat} {v : Value} {l : List UInt8} (hX : XAt w X x) (h : OutAt w B v l) (g : w.grownBy w' v.ownBlock) : XAt w' X x := by
  unfold XAt
  rw [g.block X hX.lt]
  · exact hX
  · intro e
    obtain ⟨_, cur, hc⟩ := h.row X e.symm
    unfold XAt at hX; rw [hc] at hX; cases hX
/-- may it go on? -/
def Rx.ok (x : Rx) : Bool := decide (x.e = 0) && !x.short
def Rx.wrong (x : Rx) (b : Bool) (e : Int) : Rx := if x.ok && !b then { x with e := e } else x
theorem ok_go (X : Nat) (x : Rx) (w : World) (h : XAt w X x) :
    Calls Try.prog 45 #[.pointer (some ⟨X, 0, none⟩)] w fun o w' => o = .returned (.bool x.ok) ∧ w = w' := by
  have c4 := h.e
  have c5 := h.short
  unfold Rx.ok
  by_cases he : x.e = 0
  · have q : (x.e == 0) = true := by simp [he]
    have HQ := Lib.hid (show (Ending.returned (.bool !x.short) : Ending) = .returned (.bool (decide (x.e = 0) && !x.short)) by simp [he])
    clear he h
    go_enter Try.func45, Try.ntmps45
    go_wp2
    exact bodyPost_ret (results_tmp (t := 2) rfl _ _ _) rfl ⟨HQ.out, rfl⟩
  · have q : (x.e == 0) = false := by simp [he]
    have HQ := Lib.hid (show (Ending.returned (.bool false) : Ending) = .returned (.bool (decide (x.e = 0) && !x.short)) by simp [he])
    clear he h
    go_enter Try.func45, Try.ntmps45
    go_wp2
    exact bodyPost_ret (results_tmp (t := 2) rfl _ _ _) rfl ⟨HQ.out, rfl⟩
theorem wrong_go (X : Nat) (x : Rx) (b : Bool) (e : Int) (w : World) (h : XAt w X x) :
    Calls Try.prog 50 #[.pointer (some ⟨X, 0, none⟩), .bool b, .int .i64 e] w fun o w' => o = .returned (.tuple #[]) ∧ XAt w' X (x.wrong b e) ∧ Fr (· = X) w w' := by
  have HK := Lib.hid (ok_go X x w h)
  have f4 := h.frozen 4
  have c4 := h.e
  have HQ : Hid (XAt (w.setCell ⟨X, 4, none⟩ (.int .i64 e)) X { x with e := e } ∧ Fr (· = X) w (w.setCell ⟨X, 4, none⟩ (.int .i64 e))) := Lib.hid ⟨h.set 4 _ rfl, (Fr.refl (· = X) w).setCell (Or.inl rfl) _⟩
  have HP : Hid (XAt w X x) := Lib.hid h
  unfold Rx.wrong
  clear h
  cases hk : x.ok <;> cases b <;> rw [hk] at HK <;> clear hk
  all_goals
    simp only [Bool.not_false, Bool.not_true, Bool.and_true, Bool.and_false, Bool.false_eq_true, if_false, if_true]
    go_enter Try.func50, Try.ntmps50
    go_wp2_with (go_at_call 45; refine HK.out.mono ?_; rintro o w' ⟨rfl, rfl⟩)
    first
      | exact ⟨rfl, _, results_none rfl _ _ _, rfl, HP.out, Fr.refl _ _⟩
      | exact ⟨rfl, _, results_none rfl _ _ _, rfl, HQ.out⟩
end Go.Proofs.Ytcjcmlnbchmnnaa
/-! ### XPx -/
namespace Go.Proofs.Ytcjcmlnbchmnnaa

/-- the document's reader: its next bit, what was told, what was wrong, whether bits were wanted that are not there -/
structure Px where
  pos : Nat
  out : List UInt8
  e : Int
  sh : Bool
namespace Px
def ok (x : Px) : Bool := decide (x.e = 0) && !x.sh
def wrong (x : Px) (b : Bool) (e : Int) : Px := if x.ok && !b then { x with e := e } else x
def num (s : List UInt8) (x : Px) (n : Nat) : Nat × Px := if x.ok then (if x.pos + n ≤ 8 * s.length then (Im.num s x.pos n, { x with pos := x.pos + n }) else (0, { x with sh := true })) else (0, x)
def tell (most : Nat) (x : Px) (c : UInt8) : Px := if x.ok then (if x.out.length < most then { x with out := x.out ++ [c] } else { x with e := 93 }) else x
def sym (s : List UInt8) (ns : List Nat) (x : Px) : Nat × Px :=
  if x.ok then (if (Hm.read ns s x.pos).2.2 = 0 then ((Hm.read ns s x.pos).1.toNat, { x with pos := (Hm.read ns s x.pos).2.1.toNat }) else if (Hm.read ns s x.pos).2.2 = 84 then (0, { x with sh := true }) else (0, { x with e := 91, pos := 0 })) else (0, x)
/-- it has failed: with an error, or (0) for want of bits -/
def Fails (x : Px) (e : Int) : Prop := x.e = e ∧ (e = 0 → x.sh = true)
theorem Fails.no {x : Px} {e : Int} (h : x.Fails e) : x.ok = false := by
  obtain ⟨h1, h2⟩ := h
  unfold ok
  by_cases e0 : e = 0
  · rw [h2 e0]; simp
  · rw [h1, decide_eq_false e0]; rfl
theorem ok_iff {x : Px} : x.ok = true ↔ x.e = 0 ∧ x.sh = false := by unfold ok; simp
theorem ok_mk (p : Nat) (o : List UInt8) : (Px.mk p o 0 false).ok = true := rfl
theorem ok_e {x : Px} (h : x.ok = true) : x.e = 0 := (ok_iff.1 h).1
theorem ok_sh {x : Px} (h : x.ok = true) : x.sh = false := (ok_iff.1 h).2
theorem wrong_bad {x : Px} (h : x.ok = false) (b : Bool) (e : Int) : x.wrong b e = x := by unfold wrong; rw [h]; rfl
theorem wrong_yes (x : Px) (e : Int) : x.wrong true e = x := by unfold wrong; simp
theorem wrong_no {x : Px} (h : x.ok = true) (e : Int) : x.wrong false e = { x with e := e } := by unfold wrong; rw [h]; rfl
theorem wrong_pos (x : Px) (b : Bool) (e : Int) : (x.wrong b e).pos = x.pos ∧ (x.wrong b e).out = x.out := by unfold wrong; split <;> exact ⟨rfl, rfl⟩
theorem fails_e {x : Px} {e : Int} (he : e ≠ 0) : (Px.mk x.pos x.out e x.sh).Fails e := ⟨rfl, fun h => absurd h he⟩
theorem fails_sh {x : Px} (h : x.ok = true) : ({ x with sh := true } : Px).Fails 0 := ⟨(show x.e = 0 from ok_e h), fun _ => rfl⟩
theorem num_bad {s : List UInt8} {x : Px} (h : x.ok = false) (n : Nat) : x.num s n = (0, x) := by unfold num; rw [h]; rfl
theorem sym_bad {s : List UInt8} {ns : List Nat} {x : Px} (h : x.ok = false) : x.sym s ns = (0, x) := by unfold sym; rw [h]; rfl
theorem tell_bad {most : Nat} {x : Px} (h : x.ok = false) (c : UInt8) : x.tell most c = x := by unfold tell; rw [h]; rfl
theorem num_ok {s : List UInt8} {x : Px} (h : x.ok = true) {n v p : Nat} (hb : Im.bitsP s x.pos n = .ok (v, p)) : x.num s n = (v, { x with pos := p }) := by
  unfold Im.bitsP at hb
  unfold num
  rw [h, if_pos rfl]
  by_cases q : x.pos + n ≤ 8 * s.length
  · rw [if_pos q] at hb ⊢; cases hb; rfl
  · rw [if_neg q] at hb; cases hb
theorem bits_err {s : List UInt8} {pos n : Nat} {e : Int} (hb : Im.bitsP s pos n = .error e) : e = 0 := by
  unfold Im.bitsP at hb
  by_cases q : pos + n ≤ 8 * s.length
  · rw [if_pos q] at hb; cases hb
  · rw [if_neg q] at hb; cases hb; rfl
theorem num_no {s : List UInt8} {x : Px} (h : x.ok = true) {n : Nat} {e : Int} (hb : Im.bitsP s x.pos n = .error e) : x.num s n = (0, { x with sh := true }) := by
  unfold Im.bitsP at hb
  unfold num
  rw [h, if_pos rfl]
  by_cases q : x.pos + n ≤ 8 * s.length
  · rw [if_pos q] at hb; cases hb
  · rw [if_neg q]
theorem sym_ok {s : List UInt8} {ns : List Nat} {x : Px} (h : x.ok = true) {v p : Nat} (hb : Im.symP ns s x.pos = .ok (v, p)) : x.sym s ns = (v, { x with pos := p }) := by
  unfold Im.symP at hb
  unfold sym
  rw [h, if_pos rfl]
  by_cases q : (Hm.read ns s x.pos).2.2 = 0
  · rw [if_pos q] at hb ⊢; cases hb; rfl
  · rw [if_neg q] at hb; cases hb
theorem sym_no {s : List UInt8} {ns : List Nat} {x : Px} (h : x.ok = true) {e : Int} (hb : Im.symP ns s x.pos = .error e) : (x.sym s ns).1 = 0 ∧ (x.sym s ns).2.Fails e ∧ (x.sym s ns).2.out = x.out ∧ (x.sym s ns).2.pos ≤ x.pos := by
  unfold Im.symP at hb
  unfold sym
  rw [h, if_pos rfl]
  by_cases q : (Hm.read ns s x.pos).2.2 = 0
  · rw [if_pos q] at hb; cases hb
  · rw [if_neg q] at hb ⊢
    by_cases q2 : (Hm.read ns s x.pos).2.2 = 84
    · rw [if_pos q2] at hb ⊢; cases hb; exact ⟨rfl, fails_sh h, rfl, Nat.le_refl _⟩
    · rw [if_neg q2] at hb ⊢; cases hb; exact ⟨rfl, ⟨rfl, fun e => by cases e⟩, rfl, Nat.zero_le _⟩
theorem sym_err_ne {s : List UInt8} {ns : List Nat} {pos : Nat} {e : Int} (hb : Im.symP ns s pos = .error e) : e = 0 ∨ e = 91 := by
  obtain ⟨_, _, c, _, _, rfl⟩ := Im.symP_err hb
  by_cases h : c = 84
  · left; rw [if_pos h]
  · right; rw [if_neg h]
/-- the same reader in another order of writing: a number and a position behind it -/
theorem num_pos {s : List UInt8} {x : Px} {n : Nat} (h : x.pos ≤ 8 * s.length) : (x.num s n).2.pos ≤ 8 * s.length := by
  unfold num
  split
  · split
    · assumption
    · exact h
  · exact h
theorem num_out (s : List UInt8) (x : Px) (n : Nat) : (x.num s n).2.out = x.out := by
  unfold num
  split
  · split <;> rfl
  · rfl
theorem num_lt (s : List UInt8) (x : Px) (n : Nat) : (x.num s n).1 < 2 ^ n := by
  unfold num
  split
  · split
    · exact Im.num_lt s x.pos n
    · exact Nat.two_pow_pos _
  · exact Nat.two_pow_pos _
theorem sym_out (s : List UInt8) (ns : List Nat) (x : Px) : (x.sym s ns).2.out = x.out := by
  unfold sym
  split
  · split
    · rfl
    · split <;> rfl
  · rfl
theorem sym_pos {s : List UInt8} {ns : List Nat} {x : Px} (h : x.pos ≤ 8 * s.length) : (x.sym s ns).2.pos ≤ 8 * s.length := by
  unfold sym
  split
  · split
    · rename_i h0
      rcases hr : Hm.read ns s x.pos with ⟨a, b, c⟩
      rw [hr] at h0
      dsimp only at h0 ⊢
      subst h0
      obtain ⟨i, k, _, _, _, _, h5, h6⟩ := Im.read_val hr
      subst h5
      omega
    · split
      · exact h
      · exact Nat.zero_le _
  · exact h
end Px
end Go.Proofs.Ytcjcmlnbchmnnaa
/-! ### XGh -/
namespace Go.Proofs.Ytcjcmlnbchmnnaa
open Im (St Run stepP begP elemP bitsP symP endsP)

/-- the reader has failed as the model has: b, e are the model's last state and its error -/
def Fin (x : Px) (b : St) (e : Int) : Prop := x.Fails e ∧ b.state ≠ 3 ∧ x.out = b.out
/-- what a step of the model comes to, in a run that ends in b, e -/
def GRes (s : List UInt8) (most : Nat) (X : Except Int St) (out : List UInt8) (b : St) (e : Int) : Prop :=
  (∃ a', X = .ok a' ∧ Run s most a' b e) ∨ (X = .error e ∧ b.state ≠ 3 ∧ b.out = out)
theorem run_res {s : List UInt8} {most : Nat} {a b : St} {e : Int} (h : Run s most a b e) (h3 : a.state ≠ 3) : GRes s most (stepP s most a) a.out b e := by
  cases h with
  | done h => exact absurd h h3
  | stop _ h2 => exact Or.inr ⟨h2, h3, rfl⟩
  | step _ h2 h4 => exact Or.inl ⟨_, h2, h4⟩
theorem GRes.err {s : List UInt8} {most : Nat} {out : List UInt8} {b : St} {e e' : Int} (h : GRes s most (.error e') out b e) : e' = e ∧ b.state ≠ 3 ∧ b.out = out := by
  rcases h with ⟨a', h, _⟩ | ⟨h, h2⟩
  · cases h
  · cases h; exact ⟨rfl, h2⟩
theorem GRes.ok {s : List UInt8} {most : Nat} {out : List UInt8} {a b : St} {e : Int} (h : GRes s most (.ok a) out b e) : Run s most a b e := by
  rcases h with ⟨a', h, h2⟩ | ⟨h, _⟩
  · cases h; exact h2
  · cases h
theorem GRes.fin {s : List UInt8} {most : Nat} {out : List UInt8} {x : Px} {b : St} {e e' : Int} (h : GRes s most (.error e') out b e) (hx : x.Fails e') (ho : x.out = out) : Fin x b e := by
  obtain ⟨rfl, h2, h3⟩ := h.err
  exact ⟨hx, h2, ho.trans h3.symm⟩
theorem Fin.no {x : Px} {b : St} {e : Int} (h : Fin x b e) : x.ok = false := h.1.no
theorem Fin.same {x y : Px} {b : St} {e : Int} (h : Fin x b e) (h1 : y.e = x.e) (h2 : y.sh = x.sh) (h3 : y.out = x.out) : Fin y b e :=
  ⟨⟨h1.trans h.1.1, fun q => h2.trans (h.1.2 q)⟩, h.2.1, h3.trans h.2.2⟩
/-- a block has been read: with a failure, or to its end -/
def Blk (s : List UInt8) (most : Nat) (last : Bool) (b : St) (e : Int) (x : Px) : Prop :=
  Fin x b e ∨ (x.ok = true ∧ ∃ a, Run s most (endsP a) b e ∧ a.pos = x.pos ∧ a.out = x.out ∧ a.last = last)
/-- reading a block of the kind 0, so many bytes to go -/
def InSt (s : List UInt8) (most : Nat) (last : Bool) (b : St) (e : Int) (left : Nat) (x : Px) : Prop :=
  Fin x b e ∨ (x.ok = true ∧ ∃ a, Run s most a b e ∧ a.state = 1 ∧ a.left = left ∧ a.pos = x.pos ∧ a.out = x.out ∧ a.last = last)
theorem InSt.ends {s : List UInt8} {most : Nat} {last : Bool} {b : St} {e : Int} {x : Px} (h : InSt s most last b e 0 x) : Blk s most last b e x := by
  rcases h with h | ⟨hk, a, h1, h2, h3, h4⟩
  · exact Or.inl h
  · right
    have h5 := run_res h1 (by omega)
    unfold stepP at h5
    rw [if_neg (by omega), if_pos h2, if_pos h3] at h5
    exact ⟨hk, a, h5.ok, h4⟩
/-- a byte of a block of the kind 0 -/
theorem InSt.byte {s : List UInt8} {most : Nat} {last : Bool} {b : St} {e : Int} {x : Px} {k : Nat} (h : InSt s most last b e (k + 1) x) : InSt s most last b e k ((x.num s 8).2.tell most (UInt8.ofNat (x.num s 8).1)) := by
  rcases h with h | ⟨hk, a, h1, h2, h3, h4, h6, h7⟩
  · left; rw [Px.num_bad h.no, Px.tell_bad h.no]; exact h
  · have h5 := run_res h1 (by omega)
    unfold stepP at h5
    rw [if_neg (by omega), if_pos h2, if_neg (by omega), h4] at h5
    cases hb : bitsP s x.pos 8 with
    | error e' =>
      rw [hb] at h5
      rw [Px.num_no hk hb]
      obtain rfl := Px.bits_err hb
      have hf := Px.fails_sh hk
      left
      rw [Px.tell_bad hf.no]
      exact h5.fin hf h6.symm
    | ok v =>
      obtain ⟨c, p⟩ := v
      rw [hb] at h5
      dsimp only at h5
      rw [Px.num_ok hk hb]
      have hk2 : (Px.mk p x.out x.e x.sh).ok = true := hk
      by_cases hl : a.out.length < most
      · rw [if_pos hl] at h5
        right
        have e1 : (Px.mk p x.out x.e x.sh).tell most (UInt8.ofNat c) = Px.mk p (x.out ++ [UInt8.ofNat c]) x.e x.sh := by
          unfold Px.tell; rw [hk2, if_pos rfl]; dsimp only; rw [if_pos (by rw [← h6]; exact hl)]
        refine ⟨by rw [e1]; exact hk, _, h5.ok, h2, by show a.left - 1 = k; omega, by rw [e1], by rw [e1]; show a.out ++ _ = _; rw [h6], h7⟩
      · rw [if_neg hl] at h5
        left
        have e1 : (Px.mk p x.out x.e x.sh).tell most (UInt8.ofNat c) = Px.mk p x.out 93 x.sh := by
          unfold Px.tell; rw [hk2, if_pos rfl]; dsimp only; rw [if_neg (by rw [← h6]; exact hl)]
        rw [e1]
        exact h5.fin ⟨rfl, fun q => by cases q⟩ h6.symm
/-- what the model makes of a block's head of the kind 0 -/
def storedP (s : List UInt8) (a : St) (last : Bool) (pos : Nat) : Except Int St :=
  match bitsP s pos 16 with
  | .error e => .error e
  | .ok (n, p3) => match bitsP s p3 16 with
    | .error e => .error e
    | .ok (m, p4) => if n + m = 65535 then .ok { a with pos := p4, state := 1, last := last, left := n } else .error 90
theorem InSt.head {s : List UInt8} {most : Nat} {last : Bool} {a b : St} {e : Int} {x : Px} (hk : x.ok = true) (h : GRes s most (storedP s a last x.pos) x.out b e) (ho : a.out = x.out) {n m : Nat} {x1 x2 x3 : Px}
    (h1 : x.num s 16 = (n, x1)) (h2 : x1.num s 16 = (m, x2)) (h3 : x2.wrong (decide ((m : Int) = 65535 - (n : Int))) 90 = x3) : InSt s most last b e n x3 := by
  unfold storedP at h
  cases hb : bitsP s x.pos 16 with
  | error e' =>
    rw [hb] at h
    obtain rfl := Px.bits_err hb
    have hf := Px.fails_sh hk
    rw [Px.num_no hk hb] at h1
    obtain ⟨rfl, rfl⟩ := h1
    rw [Px.num_bad hf.no] at h2
    obtain ⟨rfl, rfl⟩ := h2
    rw [Px.wrong_bad hf.no] at h3
    subst h3
    exact Or.inl (h.fin hf rfl)
  | ok v =>
    obtain ⟨n', p3⟩ := v
    rw [hb] at h
    dsimp only at h
    rw [Px.num_ok hk hb] at h1
    obtain ⟨rfl, rfl⟩ := h1
    have hk1 : (Px.mk p3 x.out x.e x.sh).ok = true := hk
    cases hb2 : bitsP s p3 16 with
    | error e' =>
      rw [hb2] at h
      obtain rfl := Px.bits_err hb2
      have hf := Px.fails_sh hk1
      rw [Px.num_no hk1 hb2] at h2
      obtain ⟨rfl, rfl⟩ := h2
      rw [Px.wrong_bad hf.no] at h3
      subst h3
      exact Or.inl (h.fin hf rfl)
    | ok v =>
      obtain ⟨m', p4⟩ := v
      rw [hb2] at h
      dsimp only at h
      rw [Px.num_ok hk1 hb2] at h2
      obtain ⟨rfl, rfl⟩ := h2
      have hk2 : (Px.mk p4 x.out x.e x.sh).ok = true := hk
      have l1 := (Im.bitsP_ok hb).1
      by_cases hs : n + m = 65535
      · rw [if_pos hs] at h
        rw [decide_eq_true (by omega), Px.wrong_yes] at h3
        subst h3
        exact Or.inr ⟨hk2, _, h.ok, rfl, rfl, rfl, ho, rfl⟩
      · rw [if_neg hs] at h
        rw [decide_eq_false (by omega), Px.wrong_no hk2] at h3
        subst h3
        exact Or.inl (h.fin ⟨rfl, fun q => by cases q⟩ rfl)
end Go.Proofs.Ytcjcmlnbchmnnaa
/-! ### XElP -/
namespace Go.Proofs.Ytcjcmlnbchmnnaa
open Im (St Run stepP begP elemP bitsP symP endsP lenP dstP copyP lenBase lenMore dstBase dstMore)

theorem Im.lenMore_le (v : Nat) (h : v ≤ 285) : lenMore v ≤ 5 := by unfold lenMore; split <;> (try split) <;> omega
theorem Im.dstMore_le (y : Nat) (h : y ≤ 29) : dstMore y ≤ 13 := by unfold dstMore; split <;> omega
theorem Im.lenBase_le (v : Nat) (h1 : 256 < v) (h : v ≤ 285) : 3 ≤ lenBase v ∧ lenBase v ≤ 258 := by
  have all : ∀ k : _root_.Fin 29, 3 ≤ lenBase (k.val + 257) ∧ lenBase (k.val + 257) ≤ 258 := by decide
  have := all ⟨v - 257, by omega⟩
  rwa [show v - 257 + 257 = v by omega] at this
theorem Im.dstBase_le (y : Nat) (h : y ≤ 29) : 1 ≤ dstBase y ∧ dstBase y ≤ 24577 := by
  have all : ∀ k : _root_.Fin 30, 1 ≤ dstBase k.val ∧ dstBase k.val ≤ 24577 := by decide
  exact all ⟨y, by omega⟩
/-- an element behind its distance's symbol; behind its first symbol -/
def elem3P (s : List UInt8) (most : Nat) (a : St) (n y p3 : Nat) : Except Int St :=
  match dstP s y p3 with
  | .error e => .error e
  | .ok (d, p4) => if a.out.length < d then .error 92 else if most < a.out.length + n then .error 93 else .ok { a with pos := p4, out := copyP a.out d n }
def elem2P (s : List UInt8) (most : Nat) (a : St) (x p1 : Nat) : Except Int St :=
  match lenP s x p1 with
  | .error e => .error e
  | .ok (n, p2) => match symP a.dist s p2 with
    | .error e => .error e
    | .ok (y, p3) => elem3P s most a n y p3
/-- the model stands where the reader does, in a block of elements -/
structure ElAt (s : List UInt8) (most : Nat) (last : Bool) (nl nd : List Nat) (b : St) (e : Int) (x : Px) (a : St) : Prop where
  ok : x.ok = true
  run : Run s most a b e
  state : a.state = 2
  lit : a.lit = nl
  dist : a.dist = nd
  pos : a.pos = x.pos
  out : a.out = x.out
  last : a.last = last
def InEl (s : List UInt8) (most : Nat) (last : Bool) (nl nd : List Nat) (b : St) (e : Int) (x : Px) : Prop :=
  Fin x b e ∨ ∃ a, ElAt s most last nl nd b e x a
variable {s : List UInt8} {most : Nat} {last : Bool} {nl nd : List Nat} {b a : St} {e : Int} {x : Px}
theorem ElAt.symL (h : ElAt s most last nl nd b e x a) : symP a.lit s a.pos = symP nl s x.pos := by rw [h.lit, h.pos]
theorem ElAt.symD (h : ElAt s most last nl nd b e x a) {p : Nat} : symP a.dist s p = symP nd s p := by rw [h.dist]
theorem ElAt.res (h : ElAt s most last nl nd b e x a) : GRes s most (elemP s most a) x.out b e := by
  have h5 := run_res h.run (by rw [h.state]; omega)
  unfold stepP at h5
  rw [if_neg (by rw [h.state]; omega), if_neg (by rw [h.state]; omega), h.out] at h5
  exact h5
theorem ElAt.symErr (h : ElAt s most last nl nd b e x a) {e' : Int} (hx : symP nl s x.pos = .error e') : (x.sym s nl).1 = 0 ∧ Fin (x.sym s nl).2 b e := by
  have h1 := h.res
  unfold elemP at h1
  rw [h.symL, hx] at h1
  obtain ⟨q1, q2, q3, _⟩ := Px.sym_no h.ok hx
  exact ⟨q1, h1.fin q2 q3⟩
theorem ElAt.byte (h : ElAt s most last nl nd b e x a) {v p : Nat} (hx : symP nl s x.pos = .ok (v, p)) (hv : v < 256) : InEl s most last nl nd b e (({ x with pos := p } : Px).tell most (UInt8.ofNat v)) := by
  have h1 := h.res
  unfold elemP at h1
  rw [h.symL, hx] at h1
  dsimp only at h1
  rw [if_pos hv] at h1
  have hk : ({ x with pos := p } : Px).ok = true := h.ok
  unfold Px.tell
  rw [hk, if_pos rfl]
  dsimp only
  by_cases hl : x.out.length < most
  · rw [if_pos (by rw [h.out]; exact hl)] at h1
    rw [if_pos hl]
    exact Or.inr ⟨_, h.ok, h1.ok, h.state, h.lit, h.dist, rfl, congrArg (· ++ _) h.out, h.last⟩
  · rw [if_neg (by rw [h.out]; exact hl)] at h1
    rw [if_neg hl]
    exact Or.inl (h1.fin ⟨rfl, fun q => by cases q⟩ rfl)
theorem ElAt.ends (h : ElAt s most last nl nd b e x a) {p : Nat} (hx : symP nl s x.pos = .ok (256, p)) : Blk s most last b e { x with pos := p } := by
  have h1 := h.res
  unfold elemP at h1
  rw [h.symL, hx] at h1
  dsimp only at h1
  rw [if_neg (by omega), if_pos rfl] at h1
  exact Or.inr ⟨h.ok, { a with pos := p }, h1.ok, rfl, h.out, h.last⟩
theorem ElAt.run2 (h : ElAt s most last nl nd b e x a) {v p : Nat} (hx : symP nl s x.pos = .ok (v, p)) (hv : 256 < v) : GRes s most (elem2P s most a v p) x.out b e := by
  have h1 := h.res
  unfold elemP at h1
  rw [h.symL, hx] at h1
  dsimp only at h1
  rw [if_neg (by omega), if_neg (by omega)] at h1
  exact h1
theorem ElAt.far (h : ElAt s most last nl nd b e x a) {v p : Nat} (hx : symP nl s x.pos = .ok (v, p)) (hv : 285 < v) : Fin { x with pos := p, e := 91 } b e := by
  have h1 := h.run2 hx (by omega)
  unfold elem2P lenP at h1
  rw [if_pos hv] at h1
  exact h1.fin ⟨rfl, fun q => by cases q⟩ rfl
/-- a length's bits and a distance's symbol -/
theorem ElAt.dists (h : ElAt s most last nl nd b e x a) {v p k t : Nat} {x2 x3 x4 : Px} (hx : symP nl s x.pos = .ok (v, p)) (hv : 256 < v) (hv2 : v ≤ 285) (h2 : ({ x with pos := p } : Px).num s (lenMore v) = (k, x2)) (h3 : x2.sym s nd = (t, x3)) (h4 : x3.wrong (decide (t ≤ 29)) 91 = x4) :
    Fin x4 b e ∨ (x4.ok = true ∧ t ≤ 29 ∧ x4.out = x.out ∧ p < x4.pos ∧ x4.pos ≤ 8 * s.length ∧ GRes s most (elem3P s most a (lenBase v + k) t x4.pos) x.out b e) := by
  have h1 := h.run2 hx hv
  unfold elem2P lenP at h1
  rw [if_neg (by omega)] at h1
  have hk : ({ x with pos := p } : Px).ok = true := h.ok
  by_cases hb : p + lenMore v ≤ 8 * s.length
  · rw [if_pos hb] at h1
    dsimp only at h1
    have hbits : bitsP s p (lenMore v) = .ok (Im.num s p (lenMore v), p + lenMore v) := by unfold bitsP; rw [if_pos hb]
    rw [Px.num_ok hk hbits] at h2
    obtain ⟨rfl, rfl⟩ := h2
    have hk2 : (Px.mk (p + lenMore v) x.out x.e x.sh).ok = true := h.ok
    cases hy : symP nd s (p + lenMore v) with
    | error e' =>
      rw [h.symD, hy] at h1
      obtain ⟨q1, q2, q3, _⟩ := Px.sym_no hk2 hy
      rw [h3] at q1 q2 q3
      have hf : Fin x3 b e := h1.fin q2 q3
      rw [Px.wrong_bad hf.no] at h4
      subst h4
      exact Or.inl hf
    | ok w =>
      obtain ⟨y, p3⟩ := w
      rw [h.symD, hy] at h1
      dsimp only at h1
      rw [Px.sym_ok hk2 hy] at h3
      obtain ⟨rfl, rfl⟩ := h3
      have hk3 : (Px.mk p3 x.out x.e x.sh).ok = true := h.ok
      obtain ⟨_, y1, y2, _⟩ := Im.symP_ok hy
      by_cases h29 : t ≤ 29
      · rw [decide_eq_true h29, Px.wrong_yes] at h4
        subst h4
        exact Or.inr ⟨hk3, h29, rfl, by show p < p3; omega, y2, h1⟩
      · rw [decide_eq_false h29, Px.wrong_no hk3] at h4
        subst h4
        unfold elem3P dstP at h1
        rw [if_pos (by omega)] at h1
        exact Or.inl (h1.fin ⟨rfl, fun q => by cases q⟩ rfl)
  · rw [if_neg hb] at h1
    have hbits : bitsP s p (lenMore v) = .error 0 := by unfold bitsP; rw [if_neg hb]
    rw [Px.num_no hk hbits] at h2
    obtain ⟨rfl, rfl⟩ := h2
    have hf := Px.fails_sh hk
    rw [Px.sym_bad hf.no] at h3
    obtain ⟨rfl, rfl⟩ := h3
    rw [Px.wrong_bad hf.no] at h4
    subst h4
    exact Or.inl (h1.fin hf rfl)
/-- a distance's bits, and what may be wrong with it -/
theorem ElAt.copies (h : ElAt s most last nl nd b e x a) {n t k : Nat} {x4 x5 x6 x7 : Px} (hk : x4.ok = true) (ht : t ≤ 29) (ho : x4.out = x.out) (h1 : GRes s most (elem3P s most a n t x4.pos) x.out b e)
    (h5 : x4.num s (dstMore t) = (k, x5)) (h6 : x5.wrong (decide (dstBase t + k ≤ x5.out.length)) 92 = x6) (h7 : x6.wrong (decide (x6.out.length + n ≤ most)) 93 = x7) :
    Fin x7 b e ∨ (x7.ok = true ∧ dstBase t + k ≤ x7.out.length ∧ x7.out.length + n ≤ most ∧ x4.pos ≤ x7.pos ∧ x7.pos ≤ 8 * s.length ∧ InEl s most last nl nd b e { x7 with out := copyP x7.out (dstBase t + k) n }) := by
  unfold elem3P dstP at h1
  rw [if_neg (by omega)] at h1
  by_cases hb : x4.pos + dstMore t ≤ 8 * s.length
  · rw [if_pos hb] at h1
    dsimp only at h1
    have hbits : bitsP s x4.pos (dstMore t) = .ok (Im.num s x4.pos (dstMore t), x4.pos + dstMore t) := by unfold bitsP; rw [if_pos hb]
    rw [Px.num_ok hk hbits] at h5
    obtain ⟨rfl, rfl⟩ := h5
    have hk5 : (Px.mk (x4.pos + dstMore t) x4.out x4.e x4.sh).ok = true := hk
    by_cases hd : x.out.length < dstBase t + Im.num s x4.pos (dstMore t)
    · rw [if_pos (by rw [h.out]; exact hd)] at h1
      rw [decide_eq_false (by rw [ho]; omega), Px.wrong_no hk5] at h6
      subst h6
      have hf : Fin { pos := x4.pos + dstMore t, out := x4.out, e := 92, sh := x4.sh } b e := h1.fin ⟨rfl, fun q => by cases q⟩ ho
      rw [Px.wrong_bad hf.no] at h7
      subst h7
      exact Or.inl hf
    · rw [if_neg (by rw [h.out]; exact hd)] at h1
      rw [decide_eq_true (by rw [ho]; omega), Px.wrong_yes] at h6
      subst h6
      by_cases hm : most < x.out.length + n
      · rw [if_pos (by rw [h.out]; exact hm)] at h1
        rw [decide_eq_false (by rw [ho]; omega), Px.wrong_no hk5] at h7
        subst h7
        exact Or.inl (h1.fin ⟨rfl, fun q => by cases q⟩ ho)
      · rw [if_neg (by rw [h.out]; exact hm)] at h1
        rw [decide_eq_true (by rw [ho]; omega), Px.wrong_yes] at h7
        subst h7
        refine Or.inr ⟨hk5, by rw [ho]; omega, by rw [ho]; omega, Nat.le_add_right _ _, hb, Or.inr ⟨_, hk5, h1.ok, h.state, h.lit, h.dist, rfl, ?_, h.last⟩⟩
        show copyP a.out _ _ = copyP x4.out _ _
        rw [ho, h.out]
  · rw [if_neg hb] at h1
    have hbits : bitsP s x4.pos (dstMore t) = .error 0 := by unfold bitsP; rw [if_neg hb]
    rw [Px.num_no hk hbits] at h5
    obtain ⟨rfl, rfl⟩ := h5
    have hf := Px.fails_sh hk
    rw [Px.wrong_bad hf.no] at h6
    subst h6
    rw [Px.wrong_bad hf.no] at h7
    subst h7
    exact Or.inl (h1.fin hf ho)
end Go.Proofs.Ytcjcmlnbchmnnaa
/-! ### XNum -/
namespace Go.Proofs.Ytcjcmlnbchmnnaa
open Go.RowKit

/-- what num comes to: a number, and the X behind it -/
def Rx.num (x : Rx) (pos n : Nat) : Nat × Rx :=
  if x.ok then (if pos + n ≤ 8 * x.s.size then (Im.num x.s.data.toList pos n, { x with bit := ((pos + n : Nat) : Int) }) else (0, { x with short := true })) else (0, x)
theorem num_step (v b j : Nat) (hj : j ≤ 16) (h1 : v < 2 ^ j) (hb : b ≤ 1) : wrap64 ((v : Int) + wrap64 ((b : Int) * 2 ^ j)) = ((v + b * 2 ^ j : Nat) : Int) := by
  have h2 : 2 ^ j ≤ 2 ^ 16 := Nat.pow_le_pow_right (by omega) hj
  have h3 : (2 : Nat) ^ 16 = 65536 := rfl
  have h4 : (((2 ^ j : Nat)) : Int) = (2 : Int) ^ j := by simp
  rw [h3] at h2
  rw [← h4]
  clear h3 h4
  generalize 2 ^ j = y at *
  have h5 : b * y ≤ 65536 := by rcases (by omega : b = 0 ∨ b = 1) with rfl | rfl <;> omega
  rw [show ((b : Int) * (y : Int)) = ((b * y : Nat) : Int) from (Int.natCast_mul b y).symm]
  generalize b * y = z at *
  rw [IntWalk.wrap64_in (z : Int) ⟨by omega, by omega⟩, IntWalk.wrap64_in ((v : Int) + (z : Int)) ⟨by omega, by omega⟩, Int.natCast_add]
set_option maxRecDepth 100000 in
set_option maxHeartbeats 2000000 in
theorem num_go (X : Nat) (x : Rx) (pos n : Nat) (w : World) (h : XAt w X x) (hp : x.bit = (pos : Int)) (hpl : pos ≤ 281474976710656 * 8) (hn : n ≤ 16) (hs : x.s.size ≤ 281474976710656) :
    Calls Try.prog 46 #[.pointer (some ⟨X, 0, none⟩), .int .i64 n] w fun o w' => o = .returned (.int .i64 ((x.num pos n).1 : Nat)) ∧ XAt w' X (x.num pos n).2 ∧ Fr (· = X) w w' := by
  have HK := Lib.hid (ok_go X x w h)
  unfold Rx.num
  cases hk : x.ok with
  | false =>
    rw [hk] at HK
    have HP := Lib.hid h
    clear h hk hp
    simp only [Bool.false_eq_true, if_false]
    go_enter Try.func46, Try.ntmps46
    go_wp2_with (go_at_call 45; refine HK.out.mono ?_; rintro o w' ⟨rfl, rfl⟩)
    exact bodyPost_ret (results_tmp (t := 4) rfl _ _ _) rfl ⟨rfl, HP.out, Fr.refl _ _⟩
  | true =>
    rw [hk] at HK
    simp only [if_true]
    have c0 := h.s
    have c1 := h.bit
    have f5 := h.frozen 5
    have f1 := h.frozen 1
    have c5 := h.short
    rw [hp] at c1
    by_cases hle : pos + n ≤ 8 * x.s.size
    · rw [if_pos hle]
      have t1 : decide (8 * (x.s.size : Int) < (pos : Int) + (n : Int)) = false := by simp; omega
      have hf0 := Fr.refl (· = X) w
      clear hk
      go_enter Try.func46, Try.ntmps46
      go_wp2_with (first | (go_at_call 45; refine HK.out.mono ?_; rintro o w' ⟨rfl, rfl⟩))
      go_quiet (fail)
      have h2 : XAt (w.drewN nq) X x := h.below (below_drewN (Below.refl _ _) nq)
      have hf2 : Fr (· = X) w (w.drewN nq) := hf0.drewN nq
      generalize w.drewN nq = wq at h2 hf2 ⊢
      clear h hf0 c0 c1 f5 f1 c5 t1
      go_wp2
      go_loopw [5, 6] (fun v i wr => ∃ j : Nat, j ≤ n ∧ i = .int .i64 j ∧ v = .int .i64 (Im.num x.s.data.toList pos j : Nat) ∧ XAt wr X x ∧ Fr (· = X) w wr) (fun _ i _ => n - (intOf i).toNat)
      case atStart => exact ⟨0, by omega, rfl, rfl, h2, hf2⟩
      case round =>
        clear h2 hf2
        obtain ⟨j, hj, rfl, rfl, h3, hf3⟩ := hrel
        have c0 := h3.s
        have c1 := h3.bit
        rw [hp] at c1
        by_cases hlt : j < n
        · have hH : Hid (XAt wr X x ∧ Fr (· = X) w wr) := Lib.hid ⟨h3, hf3⟩
          have hnl := Lib.hid (Im.num_lt x.s.data.toList pos j)
          have HB : ∀ w, Hid (Calls Try.prog 62 #[.string x.s, .int .i64 ((pos : Int) + (j : Int))] w fun e w' => e = .returned (.int .i64 (Hm.bitOf x.s.data.toList (pos + j) : Nat)) ∧ w = w') := fun w => Lib.hid (by have := rbit_any x.s (pos + j) w (by omega) hs; rwa [show ((pos + j : Nat) : Int) = (pos : Int) + (j : Int) by simp] at this)
          have hbo := Hm.bitOf_le x.s.data.toList (pos + j)
          have HN : Hid (Im.num x.s.data.toList pos (j + 1) = Im.num x.s.data.toList pos j + Hm.bitOf x.s.data.toList (pos + j) * 2 ^ j) := Lib.hid rfl
          generalize Im.num x.s.data.toList pos j = v at *
          generalize Hm.bitOf x.s.data.toList (pos + j) = b at *
          have t2 : decide ((j : Int) < (n : Int)) = true := by simp; omega
          clear h3 hf3 hle
          go_wp2
          go_quiet (exact (HB _).out.mono (by rintro e w' ⟨h1, rfl⟩; exact ⟨h1, _, rfl⟩))
          have ew := num_step v b j (by omega) hnl.out hbo
          rw [← HN.out] at ew
          rw [ew]
          clear ew HN hnl HB hbo t2
          generalize hm : Im.num x.s.data.toList pos (j + 1) = m
          have HM := Lib.hid hm
          clear hm
          go_wp2
          go_roundw
          case rel => exact ⟨j + 1, by omega, by go_num, by rw [HM.out], hH.out.1.below (below_drewN (Below.refl _ _) _), hH.out.2.drewN _⟩
          case measure => simp [intOf]; omega
        · obtain rfl : j = n := by omega
          have f1 := h3.frozen 1
          have t2 : decide ((j : Int) < (j : Int)) = false := by simp
          have HP : Hid (XAt (wr.setCell ⟨X, 1, none⟩ (.int .i64 ((pos : Int) + (j : Int)))) X { x with bit := ((pos + j : Nat) : Int) } ∧ Fr (· = X) w (wr.setCell ⟨X, 1, none⟩ (.int .i64 ((pos : Int) + (j : Int))))) := Lib.hid ⟨h3.set 1 _ (by rw [show ((pos + j : Nat) : Int) = (pos : Int) + (j : Int) by simp]; rfl), hf3.setCell (Or.inl rfl) _⟩
          clear h3 hf3 hle
          go_wp2
          exact bodyPost_ret (results_tmp (t := 4) rfl _ _ _) rfl ⟨rfl, HP.out⟩
    · rw [if_neg hle]
      have t1 : decide (8 * (x.s.size : Int) < (pos : Int) + (n : Int)) = true := by simp; omega
      have HP : Hid (∀ k, XAt ((w.drewN k).setCell ⟨X, 5, none⟩ (.bool true)) X { x with short := true } ∧ Fr (· = X) w ((w.drewN k).setCell ⟨X, 5, none⟩ (.bool true))) := Lib.hid fun k => ⟨(h.below (below_drewN (Below.refl _ _) k)).set 5 _ rfl, ((Fr.refl (· = X) w).drewN k).setCell (Or.inl rfl) _⟩
      clear h hk hp hle
      go_enter Try.func46, Try.ntmps46
      go_wp2_with (first | (go_at_call 45; refine HK.out.mono ?_; rintro o w' ⟨rfl, rfl⟩))
      go_quiet (fail)
      go_wp2
      exact bodyPost_ret (results_tmp (t := 4) rfl _ _ _) rfl ⟨rfl, HP.out nq⟩
end Go.Proofs.Ytcjcmlnbchmnnaa
/-! ### XIs -/
namespace Go.Proofs.Ytcjcmlnbchmnnaa
open Go.RowKit

def Px.rx (x : Px) (s : ByteArray) (v : Value) (most : Nat) : Rx := ⟨s, (x.pos : Int), v, (most : Int), x.e, x.sh⟩
/-- X in memory, read as the plain reader; its bytes are its own from block B on -/
def XIs (w : World) (X B : Nat) (s : ByteArray) (most : Nat) (x : Px) : Prop := ∃ v, XAt w X (x.rx s v most) ∧ OutAt w B v x.out
theorem XAt.row_ne {w : World} {X : Nat} {x : Rx} (h : XAt w X x) {g : Nat} {c : Array Value} {t : TypeId} (ht : (t == 74) = false) (hr : w.heap[g]? = some (.cells c t (0, 0))) : g ≠ X := by
  rintro rfl
  unfold XAt at h
  rw [hr] at h; injection h with h; injection h with _ e
  rw [e] at ht; simp at ht
theorem OutAt.frX {X : Nat} {x : Rx} {w w' : World} {B : Nat} {v : Value} {l : List UInt8} (h : OutAt w B v l) (hX : XAt w X x) (hf : Fr (· = X) w w') : OutAt w' B v l :=
  h.kept fun g ⟨_, hg⟩ => hf.block g (lt_of_block hg) (hX.row_ne (by decide) hg)
theorem XIs.lt {w : World} {X B : Nat} {s : ByteArray} {most : Nat} {x : Px} (h : XIs w X B s most x) : X < w.heap.size := by obtain ⟨v, h, _⟩ := h; exact h.lt
theorem XIs.row_ne {w : World} {X B : Nat} {s : ByteArray} {most : Nat} {x : Px} (h : XIs w X B s most x) {g : Nat} {c : Array Value} {t : TypeId} (ht : (t == 74) = false) (hr : w.heap[g]? = some (.cells c t (0, 0))) : g ≠ X := by
  obtain ⟨v, h, _⟩ := h; exact h.row_ne ht hr
theorem XIs.below {w w' : World} {X B : Nat} {s : ByteArray} {most : Nat} {x : Px} (h : XIs w X B s most x) (hb : Below w.heap.size w w') : XIs w' X B s most x := by
  obtain ⟨v, h1, h2⟩ := h; exact ⟨v, h1.below hb, h2.below hb⟩
theorem XIs.drew {w : World} {X B : Nat} {s : ByteArray} {most : Nat} {x : Px} (h : XIs w X B s most x) : XIs w.drew X B s most x := h.below (Below.refl _ _).drew
theorem XIs.alloc {w : World} {X B : Nat} {s : ByteArray} {most : Nat} {x : Px} (h : XIs w X B s most x) (o : Obj) : XIs (w.alloc o) X B s most x := h.below ((Below.refl _ _).alloc (Nat.le_refl _) o)
theorem XIs.setOther {w : World} {X B : Nat} {s : ByteArray} {most : Nat} {x : Px} (h : XIs w X B s most x) {g : Nat} {c : Array Value} {t : TypeId} (hr : w.heap[g]? = some (.cells c t (0, 0))) (ht : (t == 74) = false) (hb : (t == 5) = false) (i : Nat) (v : Value) : XIs (w.setCell ⟨g, i, none⟩ v) X B s most x := by
  obtain ⟨u, h1, h2⟩ := h
  refine ⟨u, h1.setOther (a := ⟨g, i, none⟩) (fun e => h1.row_ne ht hr e.symm) v, h2.kept fun k ⟨_, hk⟩ => Below.heap_setCell w ⟨g, i, none⟩ v k ?_⟩
  rintro rfl
  rw [hr] at hk; injection hk with hk; injection hk with _ e
  rw [e] at hb; simp at hb
theorem XIs.frS {S : Nat → Prop} {w w' : World} {X B : Nat} {s : ByteArray} {most : Nat} {x : Px} (h : XIs w X B s most x) (hf : Fr S w w') (hX : ¬ S X) (hB : ∀ k, ByteRow w k → ¬ S k) : XIs w' X B s most x := by
  obtain ⟨v, h1, h2⟩ := h
  exact ⟨v, h1.fr hf hX, h2.kept fun k hk => hf.block k (by obtain ⟨c, hc⟩ := hk; exact lt_of_block hc) (hB k hk)⟩
theorem row_apart {w : World} {g k : Nat} {c d : Array Value} {t u : TypeId} (h1 : w.heap[g]? = some (.cells c t (0, 0))) (h2 : w.heap[k]? = some (.cells d u (0, 0))) (ht : (t == u) = false) : k ≠ g := by
  rintro rfl
  rw [h1] at h2; injection h2 with h2; injection h2 with _ e
  rw [e] at ht; simp at ht
theorem ok_px (X B : Nat) (s : ByteArray) (most : Nat) (x : Px) (w : World) (h : XIs w X B s most x) :
    Calls Try.prog 45 #[.pointer (some ⟨X, 0, none⟩)] w fun o w' => o = .returned (.bool x.ok) ∧ w = w' := by
  obtain ⟨v, h, _⟩ := h
  exact ok_go X _ w h
theorem wrong_px (X B : Nat) (s : ByteArray) (most : Nat) (x : Px) (b : Bool) (e : Int) (w : World) (h : XIs w X B s most x) :
    Calls Try.prog 50 #[.pointer (some ⟨X, 0, none⟩), .bool b, .int .i64 e] w fun o w' => o = .returned (.tuple #[]) ∧ XIs w' X B s most (x.wrong b e) ∧ Fr (· = X) w w' := by
  obtain ⟨v, h, hO⟩ := h
  refine (wrong_go X _ b e w h).mono ?_
  rintro o w' ⟨h1, h2, h3⟩
  refine ⟨h1, ⟨v, ?_, ?_⟩, h3⟩
  · have e1 : (x.rx s v most).wrong b e = (x.wrong b e).rx s v most := by
      unfold Rx.wrong Px.wrong
      rw [show (x.rx s v most).ok = x.ok from rfl]
      split <;> rfl
    rw [← e1]; exact h2
  · rw [(Px.wrong_pos x b e).2]; exact hO.frX h h3
theorem num_px (X B : Nat) (s : ByteArray) (most : Nat) (x : Px) (n : Nat) (w : World) (h : XIs w X B s most x) (hp : x.pos ≤ 8 * s.size) (hn : n ≤ 16) (hs : s.size ≤ 281474976710656) :
    Calls Try.prog 46 #[.pointer (some ⟨X, 0, none⟩), .int .i64 n] w fun o w' => o = .returned (.int .i64 ((x.num s.data.toList n).1 : Nat)) ∧ XIs w' X B s most (x.num s.data.toList n).2 ∧ Fr (· = X) w w' := by
  obtain ⟨v, h, hO⟩ := h
  have e1 : ((x.rx s v most).num x.pos n).1 = (x.num s.data.toList n).1 ∧ ((x.rx s v most).num x.pos n).2 = (x.num s.data.toList n).2.rx s v most := by
    unfold Rx.num Px.num
    rw [show (x.rx s v most).ok = x.ok from rfl, show (x.rx s v most).s = s from rfl, blen]
    cases x.ok with
    | false => exact ⟨rfl, rfl⟩
    | true =>
      simp only [if_true]
      by_cases q : x.pos + n ≤ 8 * s.size
      · rw [if_pos q, if_pos q]; exact ⟨rfl, rfl⟩
      · rw [if_neg q, if_neg q]; exact ⟨rfl, rfl⟩
  refine (num_go X _ x.pos n w h rfl (by omega) hn hs).mono ?_
  rintro o w' ⟨h1, h2, h3⟩
  rw [e1.1] at h1
  rw [e1.2] at h2
  exact ⟨h1, ⟨v, h2, by rw [Px.num_out]; exact hO.frX h h3⟩, h3⟩
end Go.Proofs.Ytcjcmlnbchmnnaa
/-! ### XTell -/
namespace Go.Proofs.Ytcjcmlnbchmnnaa
open Go.RowKit

theorem Px.tell_out {most : Nat} {x : Px} {c : UInt8} (h : x.ok = true) (hl : x.out.length < most) : x.tell most c = { x with out := x.out ++ [c] } := by unfold Px.tell; rw [h, if_pos rfl, if_pos hl]
theorem Px.tell_full {most : Nat} {x : Px} {c : UInt8} (h : x.ok = true) (hl : ¬ x.out.length < most) : x.tell most c = { x with e := 93 } := by unfold Px.tell; rw [h, if_pos rfl, if_neg hl]
theorem XIs.grownOut {w w' : World} {X B : Nat} {s : ByteArray} {most : Nat} {x : Px} {v v' : Value} {l : List UInt8} (hX : XAt w X (x.rx s v most)) (h : OutAt w B v x.out) (g : w.grownBy w' v.ownBlock) (ho : OutAt w' B v' l) : XIs (w'.setCell ⟨X, 2, none⟩ v') X B s most { x with out := l } := by
  have h1 : XAt w' X (x.rx s v most) := hX.grown h g
  have h2 : XAt (w'.setCell ⟨X, 2, none⟩ v') X (({ x with out := l } : Px).rx s v' most) := h1.set 2 v' rfl
  exact ⟨v', h2, ho.frX h1 ((Fr.refl (· = X) w').setCell (p := ⟨X, 2, none⟩) (Or.inl rfl) v')⟩
set_option maxRecDepth 100000 in
set_option maxHeartbeats 2000000 in
theorem tell_px (X B : Nat) (s : ByteArray) (most : Nat) (x : Px) (c : UInt8) (w : World) (h : XIs w X B s most x) (hm : most ≤ 140737488355328) (hlen : x.out.length ≤ 281474976710656) (hB : B ≤ w.heap.size) :
    Calls Try.prog 63 #[.pointer (some ⟨X, 0, none⟩), .int .u8 (c.toNat : Int)] w fun o w' => o = .returned (.tuple #[]) ∧ XIs w' X B s most (x.tell most c) ∧ Grew X B w w' := by
  have HI := Lib.hid h
  obtain ⟨v, hX, hO⟩ := h
  obtain ⟨ao, cap, eo, hao⟩ := hO.slice
  have c2 := hX.out
  have c3 := hX.most
  simp only [Px.rx] at c2 c3
  rw [eo] at c2
  have HID := Lib.hid HI.out.drew
  have HF := Lib.hid ((Fr.refl (· = X) w).drew)
  have hBd : B ≤ w.drew.heap.size := hB
  clear hX eo
  by_cases hgo : x.ok = true ∧ x.out.length < most
  · obtain ⟨hk, hl⟩ := hgo
    obtain ⟨i0, hi, hz0, hz1, hz2⟩ := info_parts info_u8
    have q1 : decide ((x.out.length : Int) < (most : Int)) = true := by simp; omega
    have q2 : decide (x.out.length < most) = true := by simp; omega
    have HT := Lib.hid (Px.tell_out (c := c) hk hl)
    have HW := fun e w1 (h1 : XIs w1 X B s most x) => Lib.hid (wrong_px X B s most x true e w1 h1)
    simp only [Px.wrong_yes] at HW
    have HK := fun w1 (h1 : XIs w1 X B s most x) => Lib.hid (ok_px X B s most x w1 h1)
    rw [hk] at HK
    clear hk hao hO
    replace hm := Lib.hid hm
    replace hlen := Lib.hid hlen
    replace hl := Lib.hid hl
    go_enter Try.func63, Try.ntmps63
    go_wp2_with (fail)
    go_still_tail 11, (by kernel_rfl)
    change wpList _ _ _ _ _ w.drew
    generalize w.drew = wd at *
    clear c2 c3 q1 q2
    go_wp2_with (first | (go_at_call 50; refine (HW _ _ HID.out).out.mono ?_; rintro o w1 ⟨rfl, h1, hf1⟩; clear HW) | (go_at_call 45; refine (HK _ h1).out.mono ?_; rintro o w' ⟨rfl, rfl⟩; clear HK; obtain ⟨v1, hX1, hO1⟩ := h1; obtain ⟨a1, cap1, e1, _⟩ := hO1.slice; subst e1; have c2' := hX1.out; simp only [Px.rx] at c2'; have f2 := hX1.frozen 2; have HOA := Lib.hid (World.ownsRow.alloc hO1 (.cells #[.int .u8 (c.toNat : Int)] 5))) | (at_builtin; refine wpList_append_own _ rfl _ _ 23 rfl B 5 i0 (.int .u8 0) 1 1 Try.underlying23 hi hz0 hz1 hz2 rfl (by decide) (.slice a1 x.out.length cap1) x.out.length (bvals x.out) rfl HOA.out ⟨w1.heap.size, 0, none⟩ 1 1 (bvals [c]) rfl rfl ?c1 ?c2 ?c3 ?c4 ?c5 ?_))
    case c1 => exact new_bytes _ _ _ _ rfl
    case c2 => exact bvals_one' _
    case c3 => have := hlen.out; unfold maxLen; omega
    case c4 => have h1 := hm.out; have h2 := hl.out; omega
    case c5 => have h1 := hf1.size; simp; omega
    intro v' w2 hown' hgrow _
    have hA : OutAt _ B _ x.out := HOA.out
    have hR1 := (hX1.alloc _).grown hA hgrow
    have hg0 : Grew X B w w1 := Grew.of_fr (HF.out.trans hf1)
    have hg1 := (hg0.then_fr ((Fr.refl (· = X) w1).alloc _)).grown hA hgrow
    have ho1 : OutAt w2 B v' (x.out ++ [c]) := by
      unfold OutAt; rw [bvals_append, List.length_append]; exact hown'
    have HEND := Lib.hid (XIs.grownOut (hX1.alloc _) hA hgrow ho1)
    have hg2 := hg1.then_fr ((Fr.refl (· = X) w2).setCell (p := ⟨X, 2, none⟩) (Or.inl rfl) v')
    obtain ⟨a2, cap2, ev, _⟩ := ho1.slice
    clear hown' hgrow hA HOA hg0 hg1
    generalize (x.out ++ [c]).length = n1 at ev
    subst ev
    have c2'' := hR1.out
    have f2'' := hR1.frozen 2
    clear ho1 hX1 hO1 hR1 c2' f2
    go_wp2
    go_end0
    exact ⟨rfl, by rw [HT.out]; exact HEND.out, hg2⟩
  · have HBAD : Hid ((x.wrong (decide (x.out.length < most)) 93).ok = false ∧ x.tell most c = x.wrong (decide (x.out.length < most)) 93) := Lib.hid (by
      cases hk : x.ok with
      | false => rw [Px.wrong_bad hk, Px.tell_bad hk]; exact ⟨hk, rfl⟩
      | true =>
        have hl : ¬ x.out.length < most := fun q => hgo ⟨hk, q⟩
        rw [decide_eq_false hl, Px.wrong_no hk, Px.tell_full hk hl]
        exact ⟨rfl, rfl⟩)
    have q1 : decide ((x.out.length : Int) < (most : Int)) = decide (x.out.length < most) := by simp
    have HW := fun b e w1 (h1 : XIs w1 X B s most x) => Lib.hid (wrong_px X B s most x b e w1 h1)
    have HK := fun b w1 (h1 : XIs w1 X B s most (x.wrong b 93)) => Lib.hid (ok_px X B s most _ w1 h1)
    clear hao hO hgo
    generalize hbb : decide (x.out.length < most) = bb at *
    replace HK := HK bb
    rw [HBAD.out.1] at HK
    go_enter Try.func63, Try.ntmps63
    go_wp2_with (fail)
    go_still_tail 11, (by kernel_rfl)
    change wpList _ _ _ _ _ w.drew
    generalize w.drew = wd at *
    clear c2 c3 q1 hbb
    go_wp2_with (first | (go_at_call 50; refine (HW _ _ _ HID.out).out.mono ?_; rintro o w1 ⟨rfl, h1, hf1⟩; clear HW) | (go_at_call 45; refine (HK _ h1).out.mono ?_; rintro o w' ⟨rfl, rfl⟩; clear HK))
    go_end0
    exact ⟨rfl, by rw [HBAD.out.2]; exact h1, Grew.of_fr (HF.out.trans hf1)⟩
end Go.Proofs.Ytcjcmlnbchmnnaa
/-! ### XTreeP -/
namespace Go.Proofs.Ytcjcmlnbchmnnaa.Hm

/-- what a tree's cell says -/
def cellI : Option Int → Int
  | none => 0
  | some x => if 0 ≤ x then x + 1 else -1
theorem cellI_none : cellI none = 0 := rfl
theorem cellI_sym {x : Int} (h : 0 ≤ x) : cellI (some x) = x + 1 := by unfold cellI; exact if_pos h
theorem cellI_pre {x : Int} (h : ¬ 0 ≤ x) : cellI (some x) = -1 := by unfold cellI; exact if_neg h
/-- the tree of a table: at a 1 and a code's bits -/
def treeI (f : Nat → Nat → Option Int) (j : Nat) : Int := if j = 0 then 0 else cellI (f (j - 2 ^ Nat.log2 j) (Nat.log2 j))
theorem log2_at {c l : Nat} (h : c < 2 ^ l) : Nat.log2 (2 ^ l + c) = l := by
  have hp := Nat.two_pow_pos l
  rw [Nat.log2_eq_iff (by omega)]
  exact ⟨by omega, by rw [Nat.pow_succ]; omega⟩
theorem treeI_at (f : Nat → Nat → Option Int) {c l : Nat} (h : c < 2 ^ l) : treeI f (2 ^ l + c) = cellI (f c l) := by
  have hp := Nat.two_pow_pos l
  unfold treeI
  rw [if_neg (by omega), log2_at h, Nat.add_sub_cancel_left]
theorem treeI_none (j : Nat) : treeI (fun _ _ => none) j = 0 := by
  unfold treeI; split <;> rfl
theorem treeI_upd (f : Nat → Nat → Option Int) {c l : Nat} (h : c < 2 ^ l) (v : Int) (j : Nat) : treeI (upd f c l v) j = if j = 2 ^ l + c then cellI (some v) else treeI f j := by
  by_cases e : j = 2 ^ l + c
  · rw [if_pos e, e, treeI_at _ h, upd, if_pos ⟨rfl, rfl⟩]
  · rw [if_neg e]
    unfold treeI
    by_cases h0 : j = 0
    · rw [if_pos h0, if_pos h0]
    · rw [if_neg h0, if_neg h0, upd, if_neg]
      intro ⟨h1, h2⟩
      have := Nat.log2_self_le h0
      rw [h2] at this h1
      omega
theorem tree_lt {c l : Nat} (h : c < 2 ^ l) (hl : l ≤ 15) : 2 ^ l + c < 65536 := by
  have h2 : 2 ^ l ≤ 2 ^ 15 := Nat.pow_le_pow_right (by omega) hl
  have h3 : (2 : Nat) ^ 15 = 32768 := rfl
  omega
/-- a code's beginning fits in its bits -/
theorem pre_lt {c n k : Nat} (h : c < 2 ^ n) (hk : k ≤ n) : c / 2 ^ (n - k) < 2 ^ k := by
  rw [Nat.div_lt_iff_lt_mul (Nat.two_pow_pos _), ← Nat.pow_add]
  rwa [show k + (n - k) = n by omega]
end Go.Proofs.Ytcjcmlnbchmnnaa.Hm
/-! ### XTree -/
namespace Go.Proofs.Ytcjcmlnbchmnnaa
open Go.RowKit

def treeV (f : Nat → Nat → Option Int) (j : Nat) : Value := .int .i64 (Hm.treeI f j)
def TreeIn (ns : List Nat) (w : World) (e : Ending) (w' : World) : Prop :=
  ∃ g N, w.heap.size ≤ g ∧ 65536 ≤ N ∧ e = .returned (.slice (some ⟨g, 0, none⟩) N N) ∧ w'.rowIs g 3 N (treeV (Hm.tab ns)) ∧ Below w.heap.size w w'
theorem tree_set {w : World} {g N : Nat} {f : Nat → Nat → Option Int} (h : w.rowIs g 3 N (treeV f)) {c l : Nat} (hc : c < 2 ^ l) (v : Int) (i : Nat) (hi : i = 2 ^ l + c) (x : Int) (hx : x = Hm.cellI (some v)) :
    (w.setCell ⟨g, i, none⟩ (.int .i64 x)).rowIs g 3 N (treeV (Hm.upd f c l v)) := by
  subst hi hx
  refine (h.set _ _).congr fun j _ => ?_
  unfold treeV
  rw [Hm.treeI_upd f hc]
  by_cases e : j = 2 ^ l + c
  · rw [if_pos e, if_pos e]
  · rw [if_neg e, if_neg e]
theorem index_int (g n cap j : Nat) (h : j < n) (w : World) : (Instr.indexAt 32 (.slice (some ⟨g, 0, none⟩) n cap) (.int .i64 (j : Int))).run Try.prog w = .ok (.pointer (some ⟨g, j, none⟩)) w := by
  rw [run_indexAt_slice _ _ _ _ _ _ _ (by rw [intBytes]; exact Try.underlying32), if_pos ⟨by omega, by omega⟩, intBytes, sizeInt]
  simp [Result.andThen, Addr.add]
  exact fun e => e.symm
set_option maxRecDepth 100000 in
set_option maxHeartbeats 2000000 in
theorem tree_go (ao : Option Addr) (cap gm : Nat) (ns : List Nat) (w : World) (hs : SInts w ao (ints ns)) (hrm : w.rowIs gm 3 ns.length (cdf ns)) (hsh : Hm.Short ns) (hl : ns.length ≤ 288) (hsr : Hm.share ns ≤ 32768) :
    Calls Try.prog 61 #[.slice ao ns.length cap, .slice (some ⟨gm, 0, none⟩) ns.length ns.length] w (TreeIn ns w) := by
  obtain ⟨N, HN⟩ : ∃ N, Hid (N = 65536) := ⟨_, Lib.hid rfl⟩
  have hmk : ∀ w : World, (Instr.makeSlice 32 (.int .i64 65536) (.int .i64 65536)).run Try.prog w = .ok (.slice (some ⟨w.heap.size, 0, none⟩) N N) (w.alloc (.cells (madeCells #[.int .i64 0] N) 3)) := by
    rw [HN.out]
    exact run_make_row' (P := Try.prog) 32 3 (.int .i64 0) 8 Try.underlying32 infoInt rfl .i64 .i64 65536 (by omega) (by omega)
  have hro := World.rowIs_made w (.int .i64 0) N 3
  have hb0 := (Below.refl w.heap.size w).alloc (Nat.le_refl _) (.cells (madeCells #[.int .i64 0] N) 3)
  generalize madeCells #[Value.int .i64 0] N = A at *
  have hr0 : (w.alloc (.cells A 3)).rowIs w.heap.size 3 N (treeV (Hm.tabTo ns 0)) := hro.congr fun j _ => by unfold treeV; rw [show Hm.tabTo ns 0 = fun _ _ => none from rfl, Hm.treeI_none]
  clear hro
  go_enter Try.func61, Try.ntmps61
  go_wp2
  clear hmk
  go_loopw [6, 7, 8] (fun ii _ _ wr => ∃ i : Nat, i ≤ ns.length ∧ ii = .int .i64 i ∧ wr.rowIs w.heap.size 3 N (treeV (Hm.tabTo ns i)) ∧ Below w.heap.size w wr) (fun ii _ _ _ => ns.length - (intOf ii).toNat)
  case atStart => exact ⟨0, by omega, rfl, hr0, hb0⟩
  case round =>
    clear hr0 hb0
    obtain ⟨i, hi, rfl, hrow, hbel⟩ := hrel
    by_cases hlt : i < ns.length
    · obtain ⟨b, o, hix, hc, hbl⟩ := hs.atN i hlt cap
      have hcr := (hbel.cell (p := ⟨b, o, none⟩) hbl).trans hc
      have hl15 := Hm.len_le hsh i
      have hcl := Hm.code_lt hsh hsr i
      have hcm : w.cell? ⟨gm, i, none⟩ = some (.int .i64 (Hm.code ns i : Nat)) := hrm.cell (i := i) hlt
      have HT : Hid (Hm.tabTo ns (i + 1) = if Hm.len ns i = 0 then Hm.tabTo ns i else Hm.ins (Hm.tabTo ns i) (Hm.code ns i) (Hm.len ns i) i) := rfl
      have hgl := hrm.lt
      generalize Hm.len ns i = L at *
      generalize Hm.code ns i = d at *
      generalize Hm.tabTo ns i = f0 at *
      clear hc
      obtain ⟨wo, rfl⟩ : ∃ wo : World, wo = wr := ⟨_, rfl⟩
      clear hrm
      go_wp2
      go_loopw [8] (fun kk wr => ∃ k : Nat, k ≤ L ∧ kk = .int .i64 k ∧ wr.rowIs w.heap.size 3 N (treeV (Hm.insP f0 d L k)) ∧ Below w.heap.size w wr) (fun kk _ => L - (intOf kk).toNat)
      case atStart => exact ⟨0, by omega, rfl, hrow, hbel⟩
      case round =>
        clear hrow hbel hcr hix
        obtain ⟨k, hk, rfl, hrow, hbel⟩ := hrel
        have hcr := (hbel.cell (p := ⟨gm, i, none⟩) hgl).trans hcm
        by_cases hkl : k < L
        · have hpl := Hm.pre_lt hcl (Nat.le_of_lt hkl)
          have hix2 := Hm.tree_lt hpl (by omega)
          have hjN : 2 ^ k + d / 2 ^ (L - k) < N := by rw [HN.out]; exact hix2
          have HS : Hid (∀ (j : Nat) (x : Int), j = 2 ^ k + d / 2 ^ (L - k) → x = -1 → (wr.drew.setCell ⟨w.heap.size, j, none⟩ (.int .i64 x)).rowIs w.heap.size 3 N (treeV (Hm.insP f0 d L (k + 1)))) := Lib.hid fun j x hj hx => tree_set hrow.drew hpl (-1) j hj x (by rw [hx]; rfl)
          have hcell := hrow.drew.cell (i := 2 ^ k + d / 2 ^ (L - k)) hjN
          have hfroz := hrow.drew.frozen (2 ^ k + d / 2 ^ (L - k))
          have hixj := index_int w.heap.size N N _ hjN
          have e3 : ∀ m : Nat, ((2 : Int) ^ m) = ((2 ^ m : Nat) : Int) := fun m => by simp
          have hp := Nat.pow_le_pow_right (n := 2) (i := k) (j := 15) (by omega) (by omega)
          have a1 : IntKind.i64.wrap ((2 : Int) ^ k) = ((2 ^ k : Nat) : Int) := by rw [e3]; generalize 2 ^ k = p at *; exact IntWalk.i64_in _ (by omega)
          have a2 : IntKind.i64.wrap ((L : Int) - (k : Int)) = ((L - k : Nat) : Int) := by rw [IntWalk.i64_in _ (by omega)]; omega
          have hm : L - k ≤ 15 := by omega
          generalize L - k = m at *
          have a3 : (d : Int) / 2 ^ m = ((d / 2 ^ m : Nat) : Int) := by rw [e3]; simp
          clear e3
          generalize 2 ^ k = p at *
          generalize d / 2 ^ m = q at *
          have a4 : IntKind.i64.wrap ((p : Int) + (q : Int)) = ((p + q : Nat) : Int) := by rw [IntWalk.i64_in _ (by omega)]; omega
          have a5 : IntKind.i64.wrap (q : Int) = (q : Int) := IntWalk.i64_in _ (by omega)
          have hmin : min m 64 = m := by omega
          clear hpl hp hix2 hjN
          generalize hj : p + q = j at *
          replace hj := Lib.hid hj
          go_wp2
          go_still_tail 13, (by kernel_rfl)
          change wpList _ _ _ _ _ wr.drew
          have hbd : Below w.heap.size w wr.drew := hbel.drew
          have hend := fun v => hbd.setCell (p := ⟨w.heap.size, j, none⟩) (Nat.le_refl _) v
          replace hend := Lib.hid hend
          generalize wr.drew = wd at *
          go_wp2
          go_roundw
          case rel => exact ⟨k + 1, by omega, by go_num, HS.out j _ rfl rfl, hend.out _⟩
          case measure => simp [intOf]; omega
        · obtain rfl : k = L := by omega
          by_cases hz : k = 0
          · subst hz
            have HT2 : Hid (Hm.tabTo ns (i + 1) = f0) := Lib.hid (by rw [HT.out, if_pos rfl])
            clear hcr hcm hcl
            go_wp2
            go_roundw
            case rel => exact ⟨i + 1, by omega, by go_num, by rw [HT2.out]; exact hrow, hbel⟩
            case measure => simp [intOf]; omega
          · have HT2 : Hid (Hm.tabTo ns (i + 1) = Hm.ins f0 d k i) := Lib.hid (by rw [HT.out, if_neg hz])
            have hk0 : decide ((0 : Int) < (k : Int)) = true := by simp; omega
            have hix2 := Hm.tree_lt hcl hl15
            have hjN : 2 ^ k + d < N := by rw [HN.out]; exact hix2
            have HS : Hid (∀ (j : Nat) (x : Int), j = 2 ^ k + d → x = (i : Int) + 1 → (wr.drew.setCell ⟨w.heap.size, j, none⟩ (.int .i64 x)).rowIs w.heap.size 3 N (treeV (Hm.ins f0 d k i))) := Lib.hid fun j x hj hx => tree_set hrow.drew hcl (i : Int) j hj x (by rw [hx, Hm.cellI, if_pos (by omega)])
            have hcell := hrow.drew.cell (i := 2 ^ k + d) hjN
            have hfroz := hrow.drew.frozen (2 ^ k + d)
            have hixj := index_int w.heap.size N N _ hjN
            have hp := Nat.pow_le_pow_right (n := 2) (i := k) (j := 15) (by omega) (by omega)
            have a1 : IntKind.i64.wrap ((2 : Int) ^ k) = ((2 ^ k : Nat) : Int) := by rw [show ((2 : Int) ^ k) = ((2 ^ k : Nat) : Int) by simp]; generalize 2 ^ k = p at *; exact IntWalk.i64_in _ (by omega)
            generalize 2 ^ k = p at *
            have a4 : IntKind.i64.wrap ((p : Int) + (d : Int)) = ((p + d : Nat) : Int) := by rw [IntWalk.i64_in _ (by omega)]; omega
            have a5 : IntKind.i64.wrap ((i : Int) + 1) = (i : Int) + 1 := IntWalk.i64_in _ (by omega)
            have hmin : min k 64 = k := by omega
            clear hp hix2 hjN HT hrow
            generalize hj : p + d = j at *
            replace hj := Lib.hid hj
            go_wp2
            go_still_tail 11, (by kernel_rfl)
            change wpList _ _ _ _ _ wr.drew
            have hbd : Below w.heap.size w wr.drew := hbel.drew
            have hend := fun v => hbd.setCell (p := ⟨w.heap.size, j, none⟩) (Nat.le_refl _) v
            replace hend := Lib.hid hend
            generalize wr.drew = wd at *
            go_wp2
            go_roundw
            case rel => exact ⟨i + 1, by omega, by go_num, by rw [HT2.out]; exact HS.out j _ rfl rfl, hend.out _⟩
            case measure => simp [intOf]; omega
    · obtain rfl : i = ns.length := by omega
      have HN2 : Hid (65536 ≤ N) := Lib.hid (by rw [HN.out]; exact Nat.le_refl _)
      go_wp2
      go_ret
      exact ⟨_, N, Nat.le_refl _, HN2.out, rfl, hrow, hbel⟩
end Go.Proofs.Ytcjcmlnbchmnnaa
/-! ### XReadBy -/
namespace Go.Proofs.Ytcjcmlnbchmnnaa
open Go.RowKit

/-- a tree in memory -/
def TreeAt (w : World) (v : Value) (ns : List Nat) : Prop := ∃ g N, 65536 ≤ N ∧ v = .slice (some ⟨g, 0, none⟩) N N ∧ w.rowIs g 3 N (treeV (Hm.tab ns))
set_option maxRecDepth 100000 in
set_option maxHeartbeats 2000000 in
theorem readby_go (v : Value) (ns : List Nat) (s : ByteArray) (bit : Nat) (w : World) (hT : TreeAt w v ns) (hsh : Hm.Short ns) (hl : ns.length ≤ 288) (hz : s.size ≤ 281474976710656) (hbit : bit ≤ 9223372036854775) :
    Calls Try.prog 80 #[v, .string s, .int .i64 bit] w fun e w' => e = .returned (tri (Hm.read ns s.data.toList bit)) ∧ w = w' := by
  obtain ⟨g, N, hN, rfl, hrow⟩ := hT
  replace hN := Lib.hid hN
  go_enter Try.func80, Try.ntmps80
  go_wp2
  go_loop [2, 9, 10] (fun b gt n => ∃ c l bt j : Nat, l ≤ 16 ∧ c < 2 ^ l ∧ bt ≤ bit + l ∧ b = .int .i64 (bt : Int) ∧ gt = .int .i64 (j : Int) ∧ Hid (j = 2 ^ l + c) ∧ n = .int .i64 (l : Int) ∧ Hid (Hm.rd (Hm.tab ns) s.data.toList (17 - l) c l bt = Hm.read ns s.data.toList bit)) (fun _ _ n => 16 - (intOf n).toNat)
  case atStart => exact ⟨0, 0, bit, 1, by omega, by decide, by omega, rfl, rfl, Lib.hid rfl, rfl, Lib.hid rfl⟩
  case round =>
    obtain ⟨c, l, bt, j, hl16, hc2, hbt, rfl, rfl, HJ, rfl, HRD⟩ := hrel
    by_cases hlt : l ≤ 15
    · have hdl : decide ((l : Int) ≤ 15) = true := by simp; omega
      have hjN : j < N := by rw [HJ.out]; exact Nat.lt_of_lt_of_le (Hm.tree_lt hc2 hlt) hN.out
      have hj64 : j < 65536 := by rw [HJ.out]; exact Hm.tree_lt hc2 hlt
      have hcell := hrow.cell (i := j) hjN
      have hixj := index_int g N N _ hjN
      unfold treeV at hcell
      have hcI : Hm.treeI (Hm.tab ns) j = Hm.cellI (Hm.tab ns c l) := by rw [HJ.out]; exact Hm.treeI_at _ hc2
      rw [hcI] at hcell
      clear hcI hjN
      cases ht : Hm.tab ns c l with
      | none =>
        rw [ht] at hcell
        have HE : Hid (Hm.read ns s.data.toList bit = (0, 0, 83)) := Lib.hid (by
          rw [← HRD.out, show 17 - l = (16 - l) + 1 by omega]
          exact Hm.rd_none ht)
        clear HRD ht
        rw [Hm.cellI_none] at hcell
        go_wp2
        go_ret3
        exact ⟨by rw [HE.out]; rfl, rfl⟩
      | some x =>
        rw [ht] at hcell
        by_cases hx : 0 ≤ x
        · have hv := Im.tab_val _ ht hx
          obtain ⟨i, rfl, hi, _, _⟩ := hv
          have HE : Hid (Hm.read ns s.data.toList bit = ((i : Int), (bt : Int), 0)) := Lib.hid (by
            rw [← HRD.out, show 17 - l = (16 - l) + 1 by omega]
            exact Hm.rd_sym ht hx)
          rw [Hm.cellI_sym hx] at hcell
          have q1 : decide ((0 : Int) < (i : Int) + 1) = true := decide_eq_true (by omega)
          have a1 : IntKind.i64.wrap ((i : Int) + 1 - 1) = (i : Int) := by rw [IntWalk.i64_in _ (by omega)]; omega
          clear HRD ht hx
          go_wp2
          go_ret3
          exact ⟨by rw [HE.out]; unfold tri; congr 5, rfl⟩
        · rw [Hm.cellI_pre hx] at hcell
          by_cases hend : s.size ≤ bt / 8
          · have HE : Hid (Hm.read ns s.data.toList bit = (0, 0, 84)) := Lib.hid (by
              rw [← HRD.out, show 17 - l = (16 - l) + 1 by omega]
              exact Hm.rd_end ht hx (by rw [Array.length_toList]; exact hend))
            have he' : decide ((s.size : Int) ≤ (bt : Int) / 8) = true := by simp; omega
            clear HRD ht hx
            go_wp2
            go_ret3
            exact ⟨by rw [HE.out]; rfl, rfl⟩
          · have HE : Hid (Hm.rd (Hm.tab ns) s.data.toList (17 - (l + 1)) (2 * c + Hm.bitOf s.data.toList bt) (l + 1) (bt + 1) = Hm.read ns s.data.toList bit) := Lib.hid (by
              rw [← HRD.out, show 17 - l = (17 - (l + 1)) + 1 by omega]
              exact (Hm.rd_on ht hx (by rw [Array.length_toList]; exact hend)).symm)
            have he' : decide ((s.size : Int) ≤ (bt : Int) / 8) = false := by simp; omega
            have hbo := Hm.bitOf_le s.data.toList bt
            have HBC := Lib.hid (rbit_any s bt w (by omega) hz)
            have HC2 := Lib.hid hc2
            clear HRD ht hx hc2
            generalize Hm.bitOf s.data.toList bt = q at *
            go_wp2_with fail
            refine HBC.out.mono ?_
            rintro e w5 ⟨rfl, rfl⟩
            go_wp2_with fail
            go_round
            case rel => exact ⟨2 * c + q, l + 1, bt + 1, 2 * j + q, by omega, by have := HC2.out; rw [Nat.pow_succ]; omega, by omega, by go_num, by go_num, Lib.hid (by rw [HJ.out, Nat.pow_succ]; omega), by go_num, HE⟩
            case measure => simp [intOf]; omega
    · obtain rfl : l = 16 := by omega
      have HE : Hid (Hm.read ns s.data.toList bit = (0, 0, 83)) := Lib.hid (by
        rw [← HRD.out]
        exact Hm.rd_none (Hm.tab_long hsh (by omega) _))
      clear HRD hc2
      go_wp2
      go_ret3
      exact ⟨by rw [HE.out]; rfl, rfl⟩
end Go.Proofs.Ytcjcmlnbchmnnaa
/-! ### XSym -/
namespace Go.Proofs.Ytcjcmlnbchmnnaa
open Go.RowKit

theorem Im.rd_bad {f : Nat → Nat → Option Int} {s : List UInt8} {a b c : Int} : ∀ n cd l bit : Nat, Hm.rd f s n cd l bit = (a, b, c) → c ≠ 0 → a = 0 ∧ b = 0
  | 0, cd, l, bit, h, hc => by simp [Hm.rd] at h; exact ⟨h.1.symm, h.2.1.symm⟩
  | n + 1, cd, l, bit, h, hc => by
    cases hf : f cd l with
    | none => rw [Hm.rd_none hf] at h; cases h; exact ⟨rfl, rfl⟩
    | some y =>
      by_cases hy : 0 ≤ y
      · rw [Hm.rd_sym hf hy] at h; cases h; exact absurd rfl hc
      · by_cases hb : s.length ≤ bit / 8
        · rw [Hm.rd_end hf hy hb] at h; cases h; exact ⟨rfl, rfl⟩
        · rw [Hm.rd_on hf hy hb] at h; exact Im.rd_bad n _ _ _ h hc
theorem Im.read_bad {ns : List Nat} {s : List UInt8} {bit : Nat} {a b c : Int} (h : Hm.read ns s bit = (a, b, c)) (hc : c ≠ 0) : a = 0 ∧ b = 0 := Im.rd_bad 17 0 0 bit h hc
theorem TreeAt.below {w w' : World} {v : Value} {ns : List Nat} (h : TreeAt w v ns) (hb : Below w.heap.size w w') : TreeAt w' v ns := by
  obtain ⟨g, N, h1, h2, h3⟩ := h; exact ⟨g, N, h1, h2, h3.of_block (hb.block g h3.lt)⟩
theorem TreeAt.frX {X : Nat} {x : Rx} {w w' : World} {v : Value} {ns : List Nat} (h : TreeAt w v ns) (hX : XAt w X x) (hf : Fr (· = X) w w') : TreeAt w' v ns := by
  obtain ⟨g, N, h1, h2, h3⟩ := h
  have hg : g ≠ X := by obtain ⟨c, hc, _⟩ := h3; exact hX.row_ne (by decide) hc
  exact ⟨g, N, h1, h2, h3.of_block (hf.block g h3.lt hg)⟩
theorem TreeAt.fr {X B : Nat} {s : ByteArray} {most : Nat} {x : Px} {w w' : World} {v : Value} {ns : List Nat} (h : TreeAt w v ns) (hX : XIs w X B s most x) (hf : Fr (· = X) w w') : TreeAt w' v ns := by
  obtain ⟨u, h1, _⟩ := hX; exact h.frX h1 hf
theorem TreeAt.grew {X B B' : Nat} {s : ByteArray} {most : Nat} {x : Px} {w w' : World} {v : Value} {ns : List Nat} (h : TreeAt w v ns) (hX : XIs w X B s most x) (hf : Grew X B' w w') : TreeAt w' v ns := by
  obtain ⟨g, N, h1, h2, h3⟩ := h
  have hg : g ≠ X := by obtain ⟨c, hc, _⟩ := h3; exact hX.row_ne (by decide) hc
  refine ⟨g, N, h1, h2, h3.of_block (hf.block g h3.lt ?_)⟩
  rintro (q | ⟨_, cur, hc2⟩)
  · exact hg q
  · obtain ⟨c, hc, _⟩ := h3
    rw [hc] at hc2; injection hc2 with hc2; injection hc2 with _ e; exact absurd e (by decide)
theorem TreeAt.frS {S : Nat → Prop} {w w' : World} {v : Value} {ns : List Nat} (h : TreeAt w v ns) (hf : Fr S w w') (hS : ∀ k c, w.heap[k]? = some (.cells c 3 (0, 0)) → ¬ S k) : TreeAt w' v ns := by
  obtain ⟨g, N, h1, h2, h3⟩ := h
  have hg : ¬ S g := by obtain ⟨c, hc, _⟩ := h3; exact hS g c hc
  exact ⟨g, N, h1, h2, h3.of_block (hf.block g h3.lt hg)⟩
theorem readby_q (v : Value) (ns : List Nat) (s : ByteArray) (bit : Nat) (a b c : Int) (w : World) (hT : TreeAt w v ns) (hsh : Hm.Short ns) (hl : ns.length ≤ 288) (hz : s.size ≤ 281474976710656) (hbit : bit ≤ 9223372036854775) (hr : Hm.read ns s.data.toList bit = (a, b, c)) :
    Calls Try.prog 80 #[v, .string s, .int .i64 bit] w fun e w' => e = .returned (.tuple #[.int .i64 a, .int .i64 b, .int .i64 c]) ∧ w' = w :=
  (readby_go v ns s bit w hT hsh hl hz hbit).mono fun _ _ ⟨h1, h2⟩ => ⟨by rw [h1, hr]; rfl, h2.symm⟩
def SymPost (X B : Nat) (s : ByteArray) (most : Nat) (ns : List Nat) (x : Px) (w : World) (o : Ending) (w' : World) : Prop :=
  o = .returned (.int .i64 ((x.sym s.data.toList ns).1 : Nat)) ∧ XIs w' X B s most (x.sym s.data.toList ns).2 ∧ Fr (· = X) w w'
theorem SymPost.of {X B : Nat} {s : ByteArray} {most : Nat} {ns : List Nat} {x x' : Px} {k : Nat} {w w' : World} (h : x.sym s.data.toList ns = (k, x')) (h1 : XIs w' X B s most x') (h2 : Fr (· = X) w w') : SymPost X B s most ns x w (.returned (.int .i64 (k : Nat))) w' := by
  unfold SymPost; rw [h]; exact ⟨rfl, h1, h2⟩
theorem XIs.setShort {w : World} {X B : Nat} {s : ByteArray} {most : Nat} {x : Px} (h : XIs w X B s most x) : XIs (w.setCell ⟨X, 5, none⟩ (.bool true)) X B s most { x with sh := true } := by
  obtain ⟨v, h1, h2⟩ := h
  have h3 : XAt (w.setCell ⟨X, 5, none⟩ (.bool true)) X (({ x with sh := true } : Px).rx s v most) := h1.set 5 _ rfl
  exact ⟨v, h3, h2.frX h1 ((Fr.refl (· = X) w).setCell (p := ⟨X, 5, none⟩) (Or.inl rfl) _)⟩
theorem XIs.setBit {w : World} {X B : Nat} {s : ByteArray} {most : Nat} {x : Px} (h : XIs w X B s most x) (p : Nat) : XIs (w.setCell ⟨X, 1, none⟩ (.int .i64 (p : Int))) X B s most { x with pos := p } := by
  obtain ⟨v, h1, h2⟩ := h
  have h3 : XAt (w.setCell ⟨X, 1, none⟩ (.int .i64 (p : Int))) X (({ x with pos := p } : Px).rx s v most) := h1.set 1 _ rfl
  exact ⟨v, h3, h2.frX h1 ((Fr.refl (· = X) w).setCell (p := ⟨X, 1, none⟩) (Or.inl rfl) _)⟩
theorem XIs.cells {w : World} {X B : Nat} {s : ByteArray} {most : Nat} {x : Px} (h : XIs w X B s most x) : w.cell? ⟨X, 0, none⟩ = some (.string s) ∧ w.cell? ⟨X, 1, none⟩ = some (.int .i64 (x.pos : Int)) ∧ w.cell? ⟨X, 4, none⟩ = some (.int .i64 x.e) ∧ w.cell? ⟨X, 5, none⟩ = some (.bool x.sh) ∧ ∀ i, w.frozen? ⟨X, i, none⟩ = false := by
  obtain ⟨v, h1, h2⟩ := h
  exact ⟨h1.s, h1.bit, h1.e, h1.short, h1.frozen⟩
set_option maxRecDepth 100000 in
set_option maxHeartbeats 2000000 in
theorem sym_px (X B : Nat) (s : ByteArray) (most : Nat) (x : Px) (lv tv : Value) (ns : List Nat) (w : World) (h : XIs w X B s most x) (hT : TreeAt w tv ns) (hsh : Hm.Short ns) (hl : ns.length ≤ 288) (hp : x.pos ≤ 8 * s.size) (hs : s.size ≤ 281474976710656) :
    Calls Try.prog 66 #[.pointer (some ⟨X, 0, none⟩), .agg #[lv, tv]] w (SymPost X B s most ns x w) := by
  have HI := Lib.hid (h.alloc (.cells #[lv, tv] 76))
  have HF := Lib.hid ((Fr.refl (· = X) w).alloc (.cells #[lv, tv] 76))
  have HTA := Lib.hid (hT.below ((Below.refl w.heap.size w).alloc (Nat.le_refl _) (.cells #[lv, tv] 76)))
  have ct := cell_of_row (w.alloc (.cells #[lv, tv] 76)) w.heap.size 1 #[lv, tv] 76 (0, 0) (heap_alloc_new _ _)
  have hXz := h.lt
  have HK := fun w1 (h1 : XIs w1 X B s most x) => Lib.hid (ok_px X B s most x w1 h1)
  cases hk : x.ok with
  | false =>
    rw [hk] at HK
    have HE := Lib.hid (Px.sym_bad (s := s.data.toList) (ns := ns) hk)
    clear hk ct
    go_enter Try.func66, Try.ntmps66
    go_wp2_with (go_at_call 45; refine (HK _ HI.out).out.mono ?_; rintro o w' ⟨rfl, rfl⟩; clear HK)
    exact bodyPost_ret (results_tmp (t := 4) rfl _ _ _) rfl (SymPost.of HE.out HI.out HF.out)
  | true =>
    rw [hk] at HK
    have c0 := HI.out.cells.1
    have c1 := HI.out.cells.2.1
    rcases hr : Hm.read ns s.data.toList x.pos with ⟨a, b, c⟩
    have HR := fun (w1 : World) (e1 : w1.heap = (w.alloc (.cells #[lv, tv] 76)).heap) => readby_q tv ns s x.pos a b c w1 (by obtain ⟨g, N, h1, h2, c, h3⟩ := HTA.out; exact ⟨g, N, h1, h2, c, by rw [e1]; exact h3⟩) hsh hl hs (by omega) hr
    have HQ := fun n => Lib.hid (HI.out.below (below_drewN (Below.refl _ _) n))
    have HG := fun n => Lib.hid (HF.out.drewN n)
    by_cases hc0 : c = 0
    · subst hc0
      obtain ⟨i, k, rfl, _, _, _, rfl, _⟩ := Im.read_val hr
      have HE : Hid (x.sym s.data.toList ns = (i, { x with pos := x.pos + k })) := Lib.hid (by unfold Px.sym; rw [hk, hr]; rfl)
      have HW := fun w1 (h1 : XIs w1 X B s most x) => Lib.hid (wrong_px X B s most x true 91 w1 h1)
      simp only [Px.wrong_yes] at HW
      clear hr hk
      generalize x.pos + k = p' at *
      go_enter Try.func66, Try.ntmps66
      go_wp2_with (go_at_call 45; refine (HK _ HI.out).out.mono ?_; rintro o w' ⟨rfl, rfl⟩; clear HK)
      go_quiet ((go_at_call 80; exact Calls.quiet_of_same (HR _ rfl)))
      replace HQ := HQ nq
      replace HG := HG nq
      generalize (w.alloc (.cells #[lv, tv] 76)).drewN nq = wq at *
      clear c0 c1 ct HR
      go_wp2_with (go_at_call 50; refine (HW _ HQ.out).out.mono ?_; rintro o w1 ⟨rfl, h1, hf1⟩; clear HW; have c1 := h1.cells.2.1; have f1 := h1.cells.2.2.2.2 1)
      exact bodyPost_ret (results_tmp (t := 4) rfl _ _ _) rfl (SymPost.of HE.out (h1.setBit p') ((HG.out.trans hf1).setCell (p := ⟨X, 1, none⟩) (Or.inl rfl) _))
    · by_cases hc84 : c = 84
      · subst hc84
        have HE : Hid (x.sym s.data.toList ns = (0, { x with sh := true })) := Lib.hid (by unfold Px.sym; rw [hk, hr]; rfl)
        clear hr hk
        go_enter Try.func66, Try.ntmps66
        go_wp2_with (go_at_call 45; refine (HK _ HI.out).out.mono ?_; rintro o w' ⟨rfl, rfl⟩; clear HK)
        go_quiet ((go_at_call 80; exact Calls.quiet_of_same (HR _ rfl)))
        replace HQ := HQ nq
        replace HG := HG nq
        generalize (w.alloc (.cells #[lv, tv] 76)).drewN nq = wq at *
        clear c0 c1 ct HR
        have c5 := HQ.out.cells.2.2.2.1
        have f5 := HQ.out.cells.2.2.2.2 5
        go_wp2
        exact bodyPost_ret (results_tmp (t := 4) rfl _ _ _) rfl (SymPost.of HE.out HQ.out.setShort (HG.out.setCell (p := ⟨X, 5, none⟩) (Or.inl rfl) _))
      · obtain ⟨rfl, rfl⟩ : a = 0 ∧ b = 0 := by
          have := Im.read_bad hr hc0
          exact this
        have HE : Hid (x.sym s.data.toList ns = (0, { x with e := 91, pos := 0 })) := Lib.hid (by unfold Px.sym; rw [hk, hr, if_pos rfl, if_neg hc0, if_neg hc84])
        have HW := fun w1 (h1 : XIs w1 X B s most x) => Lib.hid (wrong_px X B s most x false 91 w1 h1)
        rw [Px.wrong_no hk] at HW
        have q1 : (c == 84) = false := by simpa using hc84
        have q2 : (c == 0) = false := by simpa using hc0
        clear hr hk hc0 hc84
        go_enter Try.func66, Try.ntmps66
        go_wp2_with (go_at_call 45; refine (HK _ HI.out).out.mono ?_; rintro o w' ⟨rfl, rfl⟩; clear HK)
        go_quiet ((go_at_call 80; exact Calls.quiet_of_same (HR _ rfl)))
        replace HQ := HQ nq
        replace HG := HG nq
        generalize (w.alloc (.cells #[lv, tv] 76)).drewN nq = wq at *
        clear c0 c1 ct HR
        go_wp2_with (go_at_call 50; refine (HW _ HQ.out).out.mono ?_; rintro o w1 ⟨rfl, h1, hf1⟩; clear HW; have c1 := h1.cells.2.1; have f1 := h1.cells.2.2.2.2 1)
        exact bodyPost_ret (results_tmp (t := 4) rfl _ _ _) rfl (SymPost.of HE.out (h1.setBit 0) ((HG.out.trans hf1).setCell (p := ⟨X, 1, none⟩) (Or.inl rfl) _))
end Go.Proofs.Ytcjcmlnbchmnnaa
