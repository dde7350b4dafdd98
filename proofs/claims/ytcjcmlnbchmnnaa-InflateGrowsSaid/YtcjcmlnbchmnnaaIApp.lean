/- Bytes appended to a row that the call owns: a few of them, a string's (steps of a walk). -/
import Derived.Test.YtcjcmlnbchmnnaaIHist
import Derived.Lib.AppendStr
namespace Go.Proofs.Ytcjcmlnbchmnnaa
open Go.RowKit

theorem bytes_eq {a : ByteArray} {l : List UInt8} (h : a.data.toList = l) : a = ⟨l.toArray⟩ := by subst h; rfl
theorem bytes_same (a : ByteArray) : (⟨a.data.toList.toArray⟩ : ByteArray) = a := rfl
theorem strCells_bvals (s : ByteArray) : Lib.strCells s = bvals s.data.toList := by
  simp [Lib.strCells, bvals]
theorem wpList_str {ops : Array Oper} {rest : List Oper} {o : Oper} {a : Act} {Q : Exit → Act → World → Prop} {w : World} (hgd : o.guard = none) (sl x : Operand)
    (ho : o.op = .call { callee := .builtin .append, args := #[sl, x], argTypes := #[23, 9] }) (B : Nat) (v : Value) (l : List UInt8) (hs : a.eval sl = v) (hown : OutAt w B v l)
    (s : ByteArray) (hx : a.eval x = .string s) (hz : l.length + s.size ≤ 140737488355328) (hB : B ≤ w.heap.size)
    (h : ∀ v' w', OutAt w' B v' (l ++ s.data.toList) → w.grownBy w' v.ownBlock → wpList Try.prog ops Q rest (a.put o.dst v') w') : wpList Try.prog ops Q (o :: rest) a w := by
  obtain ⟨i0, hi, hz0, hz1, hz2⟩ := info_parts info_u8
  refine Lib.wpList_append_own_string w hgd sl x 23 9 ho B 5 i0 Try.underlying23 Try.underlying9 hi hz0 hz1 hz2 v l.length (bvals l) hs hown s hx (by unfold maxLen; omega) hz hB ?_
  intro v' w' h1 h2 _
  refine h v' w' ?_ h2
  unfold OutAt
  rw [List.length_append, bvals_append, blen, ← strCells_bvals]
  exact h1
theorem wpList_lit {ops : Array Oper} {rest : List Oper} {o : Oper} {a : Act} {Q : Exit → Act → World → Prop} {w : World} (hgd : o.guard = none) (sl x : Operand)
    (ho : o.op = .call { callee := .builtin .append, args := #[sl, x], argTypes := #[23, 23] }) (B : Nat) (v : Value) (l : List UInt8) (hs : a.eval sl = v) (vs : Array Value) (m : Nat)
    (hown : OutAt w B v l) (hx : a.eval x = .slice (some ⟨w.heap.size, 0, none⟩) m m) (news : List UInt8) (hn : vs.toList = bvals news) (hm : news.length = m) (hz : l.length + m ≤ 140737488355328) (hB : B ≤ w.heap.size)
    (h : ∀ v' w', OutAt w' B v' (l ++ news) → (w.alloc (.cells vs 5)).grownBy w' v.ownBlock → wpList Try.prog ops Q rest (a.put o.dst v') w') : wpList Try.prog ops Q (o :: rest) a (w.alloc (.cells vs 5)) := by
  obtain ⟨i0, hi, hz0, hz1, hz2⟩ := info_parts info_u8
  refine wpList_append_own _ hgd sl x 23 ho B 5 i0 (.int .u8 0) 1 1 Try.underlying23 hi hz0 hz1 hz2 rfl (by decide) v l.length (bvals l) hs (own_below hown ((Below.refl _ w).alloc (Nat.le_refl _) _)) ⟨w.heap.size, 0, none⟩ m m (bvals news) hx (by rw [bvals_length, hm, Nat.mul_one]) ?c1 (bvals_one' _) (by unfold maxLen; omega) (by omega) (Nat.le_trans hB (by simp)) ?_
  case c1 => exact new_bytes _ _ _ _ hn
  intro v' w' h1 h2 _
  refine h v' w' ?_ h2
  unfold OutAt
  rw [List.length_append, bvals_append, hm]
  exact h1
/-- bytes that a call has made, and nothing else has changed -/
structure Made (w0 w : World) (v : Value) (l : List UInt8) : Prop where
  out : OutAt w w0.heap.size v l
  bel : Below w0.heap.size w0 w
theorem Made.below {w0 w w' : World} {v : Value} {l : List UInt8} (h : Made w0 w v l) (hb : Below w.heap.size w w') : Made w0 w' v l := ⟨h.out.below hb, belThen h.bel hb⟩
theorem wpList_strM {ops : Array Oper} {rest : List Oper} {o : Oper} {a : Act} {Q : Exit → Act → World → Prop} {w : World} (hgd : o.guard = none) (sl x : Operand)
    (ho : o.op = .call { callee := .builtin .append, args := #[sl, x], argTypes := #[23, 9] }) (w0 : World) (v : Value) (l : List UInt8) (hs : a.eval sl = v)
    (s : ByteArray) (hx : a.eval x = .string s) (hown : Made w0 w v l) (hz : l.length + s.size ≤ 140737488355328)
    (h : ∀ v' w', Made w0 w' v' (l ++ s.data.toList) → wpList Try.prog ops Q rest (a.put o.dst v') w') : wpList Try.prog ops Q (o :: rest) a w :=
  wpList_str hgd sl x ho w0.heap.size v l hs hown.out s hx hz hown.bel.size fun v' w' h1 h2 => h v' w' ⟨h1, hown.bel.grown h2 hown.bel.size fun g hg => (OutAt.row hown.out g hg).1⟩
theorem wpList_litM {ops : Array Oper} {rest : List Oper} {o : Oper} {a : Act} {Q : Exit → Act → World → Prop} {w : World} (hgd : o.guard = none) (sl x : Operand)
    (ho : o.op = .call { callee := .builtin .append, args := #[sl, x], argTypes := #[23, 23] }) (w0 : World) (v : Value) (l : List UInt8) (hs : a.eval sl = v) (vs : Array Value) (m : Nat)
    (hx : a.eval x = .slice (some ⟨w.heap.size, 0, none⟩) m m) (hown : Made w0 w v l) (news : List UInt8) (hn : vs.toList = bvals news) (hm : news.length = m) (hz : l.length + m ≤ 140737488355328)
    (h : ∀ v' w', Made w0 w' v' (l ++ news) → wpList Try.prog ops Q rest (a.put o.dst v') w') : wpList Try.prog ops Q (o :: rest) a (w.alloc (.cells vs 5)) :=
  wpList_lit hgd sl x ho w0.heap.size v l hs vs m hown.out hx news hn hm hz hown.bel.size fun v' w' h1 h2 => h v' w' ⟨h1, (hown.bel.alloc hown.bel.size _).grown h2 (Nat.le_trans hown.bel.size (by simp)) fun g hg => (OutAt.row hown.out g hg).1⟩
theorem lit_one (n : Nat) : (.int .u8 ((n : Int) % 256) : Value) = .int .u8 ((UInt8.ofNat n).toNat : Int) := by rw [mod_byte]
end Go.Proofs.Ytcjcmlnbchmnnaa
