/- The Reader of inflate in memory; must. -/
import Derived.Test.YtcjcmlnbchmnnaaNew
import Derived.Test.YtcjcmlnbchmnnaaFr
import Derived.Recover
import Derived.WalkLawsBesides
namespace Go.Proofs.Ytcjcmlnbchmnnaa
open Go.RowKit

/-- a Reader's fields -/
structure Rd where
  s : ByteArray
  bit : Int
  state : Int
  last : Bool
  left : Int
  lit : Value
  dist : Value
  back : Value
  out : Value
  told : Int
  most : Int
  e : Int
def Rd.cells (r : Rd) : Array Value := #[.string r.s, .int .i64 r.bit, .int .i64 r.state, .bool r.last, .int .i64 r.left, r.lit, r.dist, r.back, r.out, .int .i64 r.told, .int .i64 r.most, .int .i64 r.e]
def RdAt (w : World) (R : Nat) (r : Rd) : Prop := w.heap[R]? = some (.cells r.cells 69 (0, 0))
theorem RdAt.lt {w : World} {R : Nat} {r : Rd} (h : RdAt w R r) : R < w.heap.size := lt_of_block h
theorem RdAt.cell {w : World} {R : Nat} {r : Rd} (h : RdAt w R r) (i : Nat) : w.cell? ⟨R, i, none⟩ = r.cells[i]? := cell_of_row _ _ _ _ _ _ h
theorem RdAt.frozen {w : World} {R : Nat} {r : Rd} (h : RdAt w R r) (i : Nat) : w.frozen? ⟨R, i, none⟩ = false := frozen_of_row _ _ _ _ _ h
theorem RdAt.s {w : World} {R : Nat} {r : Rd} (h : RdAt w R r) : w.cell? ⟨R, 0, none⟩ = some (.string r.s) := h.cell 0
theorem RdAt.bit {w : World} {R : Nat} {r : Rd} (h : RdAt w R r) : w.cell? ⟨R, 1, none⟩ = some (.int .i64 r.bit) := h.cell 1
theorem RdAt.state {w : World} {R : Nat} {r : Rd} (h : RdAt w R r) : w.cell? ⟨R, 2, none⟩ = some (.int .i64 r.state) := h.cell 2
theorem RdAt.last {w : World} {R : Nat} {r : Rd} (h : RdAt w R r) : w.cell? ⟨R, 3, none⟩ = some (.bool r.last) := h.cell 3
theorem RdAt.left {w : World} {R : Nat} {r : Rd} (h : RdAt w R r) : w.cell? ⟨R, 4, none⟩ = some (.int .i64 r.left) := h.cell 4
theorem RdAt.lit {w : World} {R : Nat} {r : Rd} (h : RdAt w R r) : w.cell? ⟨R, 5, none⟩ = some r.lit := h.cell 5
theorem RdAt.dist {w : World} {R : Nat} {r : Rd} (h : RdAt w R r) : w.cell? ⟨R, 6, none⟩ = some r.dist := h.cell 6
theorem RdAt.back {w : World} {R : Nat} {r : Rd} (h : RdAt w R r) : w.cell? ⟨R, 7, none⟩ = some r.back := h.cell 7
theorem RdAt.out {w : World} {R : Nat} {r : Rd} (h : RdAt w R r) : w.cell? ⟨R, 8, none⟩ = some r.out := h.cell 8
theorem RdAt.told {w : World} {R : Nat} {r : Rd} (h : RdAt w R r) : w.cell? ⟨R, 9, none⟩ = some (.int .i64 r.told) := h.cell 9
theorem RdAt.most {w : World} {R : Nat} {r : Rd} (h : RdAt w R r) : w.cell? ⟨R, 10, none⟩ = some (.int .i64 r.most) := h.cell 10
theorem RdAt.e {w : World} {R : Nat} {r : Rd} (h : RdAt w R r) : w.cell? ⟨R, 11, none⟩ = some (.int .i64 r.e) := h.cell 11
theorem RdAt.drew {w : World} {R : Nat} {r : Rd} (h : RdAt w R r) : RdAt w.drew R r := h
theorem RdAt.drewN {w : World} {R : Nat} {r : Rd} (h : RdAt w R r) (n : Nat) : RdAt (w.drewN n) R r := by
  unfold RdAt; rw [(below_drewN (Below.refl w.heap.size w) n).block R h.lt]; exact h
theorem RdAt.alloc {w : World} {R : Nat} {r : Rd} (h : RdAt w R r) (o : Obj) : RdAt (w.alloc o) R r := by unfold RdAt; rw [Below.heap_alloc w o R h.lt]; exact h
theorem RdAt.below {w w' : World} {R : Nat} {r : Rd} (h : RdAt w R r) (hb : Below w.heap.size w w') : RdAt w' R r := by unfold RdAt; rw [hb.block R h.lt]; exact h
theorem RdAt.fr {w w' : World} {R : Nat} {r : Rd} {S : Nat → Prop} (h : RdAt w R r) (hf : Fr S w w') (hn : ¬ S R) : RdAt w' R r := by unfold RdAt; rw [hf.block R h.lt hn]; exact h
theorem RdAt.set {w : World} {R : Nat} {r r' : Rd} (h : RdAt w R r) (i : Nat) (v : Value) (e : r.cells.setIfInBounds i v = r'.cells) : RdAt (w.setCell ⟨R, i, none⟩ v) R r' := by
  unfold RdAt; rw [← e]; exact heap_setCell_same w R i _ _ v h
theorem RdAt.setOther {w : World} {R : Nat} {r : Rd} (h : RdAt w R r) {a : Addr} (ha : R ≠ a.block) (v : Value) : RdAt (w.setCell a v) R r := by
  unfold RdAt; rw [heap_setCell_other w a R v ha]; exact h

/-- what must gives up with -/
def stopped (e : Int) : Ending := .panicked [{ v := .iface 83 (.agg #[.int .i64 e]), recovered := false }]
theorem must_yes (e : Int) (w : World) : Calls Try.prog 71 #[.bool true, .int .i64 e] w fun r w' => r = .returned (.tuple #[]) ∧ w = w' := by
  go_enter Try.func71, Try.ntmps71
  go_wp2
  go_end0
  exact ⟨rfl, rfl⟩
theorem must_no (e : Int) (w : World) : Calls Try.prog 71 #[.bool false, .int .i64 e] w fun r w' => r = stopped e ∧ w = w' := by
  go_enter Try.func71, Try.ntmps71
  go_wp2
  exact ⟨rfl, rfl, rfl⟩
theorem must_q (e : Int) (w : World) : Calls Try.prog 71 #[.bool true, .int .i64 e] w fun r w' => r = .returned (.tuple #[]) ∧ w' = w :=
  (must_yes e w).mono fun _ _ ⟨h1, h2⟩ => ⟨h1, h2.symm⟩
end Go.Proofs.Ytcjcmlnbchmnnaa
