/- What a call may have changed: all old blocks but some are as they were; a Reader's row stays one (no program in sight but for a type's number). -/
import Derived.WalkKit
import Derived.WalkSmall
namespace Go.Proofs.Ytcjcmlnbchmnnaa
open Go.RowKit

/-- a row of a Reader's cells -/
def RdRow (w : World) (k : Nat) : Prop := ∃ c, w.heap[k]? = some (.cells c 69 (0, 0)) ∧ c.size = 12
/-- all that was there but the blocks in S is as it was -/
structure Fr (S : Nat → Prop) (w w' : World) : Prop where
  os : w'.os = w.os
  tape : w'.tape = w.tape
  output : w'.output = w.output
  size : w.heap.size ≤ w'.heap.size
  block : ∀ k, k < w.heap.size → ¬ S k → w'.heap[k]? = w.heap[k]?
  rd : ∀ k, RdRow w k → RdRow w' k
theorem RdRow.lt {w : World} {k : Nat} (h : RdRow w k) : k < w.heap.size := by obtain ⟨c, h1, _⟩ := h; exact lt_of_block h1
theorem RdRow.of_block {w w' : World} {k : Nat} (h : RdRow w k) (e : w'.heap[k]? = w.heap[k]?) : RdRow w' k := by obtain ⟨c, h1, h2⟩ := h; exact ⟨c, e.trans h1, h2⟩
theorem RdRow.below {w w' : World} {k B : Nat} (h : RdRow w k) (hb : Below B w w') (hB : w.heap.size ≤ B) : RdRow w' k := h.of_block (hb.block k (Nat.lt_of_lt_of_le h.lt hB))
theorem RdRow.setCell {w : World} {k : Nat} (h : RdRow w k) (p : Addr) (v : Value) : RdRow (w.setCell p v) k := by
  by_cases e : k = p.block
  · subst e
    obtain ⟨c, h1, h2⟩ := h
    refine ⟨if p.spot.isSome then c else c.setIfInBounds p.off v, ?_, ?_⟩
    · simp only [World.setCell, Array.getElem?_modify, h1]; rfl
    · split
      · exact h2
      · rw [Array.size_setIfInBounds]; exact h2
  · exact h.of_block (Below.heap_setCell w p v k e)
theorem Fr.refl (S : Nat → Prop) (w : World) : Fr S w w := ⟨rfl, rfl, rfl, Nat.le_refl _, fun _ _ _ => rfl, fun _ h => h⟩
theorem Fr.trans {S : Nat → Prop} {a b c : World} (h : Fr S a b) (k : Fr S b c) : Fr S a c :=
  ⟨k.os.trans h.os, k.tape.trans h.tape, k.output.trans h.output, Nat.le_trans h.size k.size, fun i hi hs => (k.block i (Nat.lt_of_lt_of_le hi h.size) hs).trans (h.block i hi hs), fun i q => k.rd i (h.rd i q)⟩
theorem Fr.mono {S S' : Nat → Prop} {a b : World} (h : Fr S a b) (hs : ∀ k, k < a.heap.size → S k → S' k) : Fr S' a b :=
  ⟨h.os, h.tape, h.output, h.size, fun i hi hn => h.block i hi fun q => hn (hs i hi q), h.rd⟩
/-- behind a call that may change S' as well, where S' is new or in S -/
theorem Fr.then {S S' : Nat → Prop} {a b c : World} (h : Fr S a b) (k : Fr S' b c) (hs : ∀ i, i < a.heap.size → S' i → S i) : Fr S a c :=
  ⟨k.os.trans h.os, k.tape.trans h.tape, k.output.trans h.output, Nat.le_trans h.size k.size, fun i hi hn => (k.block i (Nat.lt_of_lt_of_le hi h.size) fun q => hn (hs i hi q)).trans (h.block i hi hn), fun i q => k.rd i (h.rd i q)⟩
theorem Fr.below {S : Nat → Prop} {a b c : World} (h : Fr S a b) (k : Below b.heap.size b c) : Fr S a c :=
  ⟨k.os.trans h.os, k.tape.trans h.tape, k.output.trans h.output, Nat.le_trans h.size k.size, fun i hi hn => (k.block i (Nat.lt_of_lt_of_le hi h.size)).trans (h.block i hi hn), fun i q => (h.rd i q).below k (Nat.le_refl _)⟩
theorem Fr.drew {S : Nat → Prop} {a b : World} (h : Fr S a b) : Fr S a b.drew := ⟨h.os, h.tape, h.output, h.size, h.block, h.rd⟩
theorem Fr.drewN {S : Nat → Prop} {a b : World} (h : Fr S a b) (n : Nat) : Fr S a (b.drewN n) := h.below (below_drewN (Below.refl b.heap.size b) n)
theorem Fr.alloc {S : Nat → Prop} {a b : World} (h : Fr S a b) (o : Obj) : Fr S a (b.alloc o) := h.below ((Below.refl b.heap.size b).alloc (Nat.le_refl _) o)
theorem Fr.of_below {S : Nat → Prop} {a b : World} (k : Below a.heap.size a b) : Fr S a b := (Fr.refl S a).below k
theorem Fr.setCell {S : Nat → Prop} {a b : World} (h : Fr S a b) {p : Addr} (hp : S p.block ∨ a.heap.size ≤ p.block) (v : Value) : Fr S a (b.setCell p v) :=
  ⟨h.os, h.tape, h.output, by simpa using h.size, fun i hi hn => by
    rw [Below.heap_setCell b p v i (by rintro rfl; rcases hp with q | q; exact hn q; omega)]; exact h.block i hi hn, fun i q => (h.rd i q).setCell p v⟩
theorem Fr.grown {S : Nat → Prop} {a b c : World} {row : Option Nat} (h : Fr S a b) (g : b.grownBy c row) (hr : ∀ k, row = some k → False ∨ a.heap.size ≤ k) : Fr S a c :=
  ⟨g.os.trans h.os, g.tape.trans h.tape, g.output.trans h.output, Nat.le_trans h.size g.size, fun i hi hn => by
    rw [g.block i (Nat.lt_of_lt_of_le hi h.size) (by intro e; rcases hr i e.symm with q | q; exact q.elim; omega)]; exact h.block i hi hn, fun i q => (h.rd i q).of_block (g.block i (h.rd i q).lt (by intro e; have := q.lt; rcases hr i e.symm with q | q; exact q.elim; omega))⟩
/-- only new memory and blocks from B on -/
theorem Fr.to_below {S : Nat → Prop} {a b : World} {B : Nat} (h : Fr S a b) (hB : B ≤ a.heap.size) (hs : ∀ k, S k → B ≤ k) : Below B a b :=
  ⟨h.os, h.tape, h.output, h.size, fun k hk => h.block k (by omega) fun q => by have := hs k q; omega⟩
theorem Fr.cell {S : Nat → Prop} {a b : World} (h : Fr S a b) {p : Addr} (hp : p.block < a.heap.size) (hn : ¬ S p.block) : b.cell? p = a.cell? p := World.cell?_of_block (w := a) (h.block p.block hp hn)
end Go.Proofs.Ytcjcmlnbchmnnaa
