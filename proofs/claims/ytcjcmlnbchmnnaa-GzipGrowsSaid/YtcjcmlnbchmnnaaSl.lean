/- Slices of ints that are only read; rows of ints (small laws). -/
import Derived.Test.YtcjcmlnbchmnnaaProg
import Derived.Test.YtcjcmlnbchmnnaaPl
import Derived.Test.YtcjcmlnbchmnnaaWords
import Derived.WalkKit
import Derived.WalkSpells
import Derived.WalkLawsBesides
import Derived.WalkSmall
import Derived.Lib.Hide
import Derived.Outline
namespace Go.Proofs.Ytcjcmlnbchmnnaa
open Go.RowKit

/-- what a slice of so many ints reads as, wherever it lies (an empty one: anywhere) -/
def SInts (w : World) (ao : Option Addr) (ls : List Int) : Prop :=
  ∀ j x, ls[j]? = some x → ∃ b off, ao = some ⟨b, off, none⟩ ∧ w.cell? ⟨b, off + j, none⟩ = some (.int .i64 x)
theorem SInts.nil (w : World) (ao : Option Addr) : SInts w ao [] := fun j x h => by simp at h
theorem SInts.later {w w' : World} {ao : Option Addr} {ls : List Int} (h : SInts w ao ls) (hb : Below w.heap.size w w') : SInts w' ao ls := fun j x hj => by
  obtain ⟨b, off, h1, h2⟩ := h j x hj
  exact ⟨b, off, h1, by rw [hb.cell (p := ⟨b, off + j, none⟩) (World.block_lt_of_cell? w _ h2)]; exact h2⟩
theorem SInts.alike {w w' : World} {ao : Option Addr} {ls : List Int} (h : SInts w ao ls) {B : Nat} (hb : Below B w w') (hB : ∀ b off, ao = some ⟨b, off, none⟩ → ls ≠ [] → b < B) : SInts w' ao ls := fun j x hj => by
  obtain ⟨b, off, h1, h2⟩ := h j x hj
  exact ⟨b, off, h1, by rw [hb.cell (p := ⟨b, off + j, none⟩) (hB b off h1 (by intro e; subst e; simp at hj))]; exact h2⟩
theorem intBytes : Try.prog.elem 32 = 3 := by kernel_rfl
theorem sizeInt (w : World) : (sizeOf 3).run Try.prog w = .ok 1 w := by kernel_rfl
theorem SInts.at {w : World} {ao : Option Addr} {ls : List Int} (h : SInts w ao ls) (k : Nat) (x : Int) (hk : ls[k]? = some x) (cap : Nat) :
    ∃ b o, (∀ w', (Instr.indexAt 32 (.slice ao ls.length cap) (.int .i64 k)).run Try.prog w' = .ok (.pointer (some ⟨b, o, none⟩)) w') ∧ w.cell? ⟨b, o, none⟩ = some (.int .i64 x) ∧ b < w.heap.size := by
  obtain ⟨b, off, rfl, h2⟩ := h k x hk
  have hlt : k < ls.length := (List.getElem?_eq_some_iff.1 hk).1
  refine ⟨b, off + k, fun w' => ?_, h2, World.block_lt_of_cell? w _ h2⟩
  rw [run_indexAt_slice _ _ _ _ _ _ _ (by rw [intBytes]; exact Try.underlying32), if_pos ⟨by omega, by omega⟩, intBytes, sizeInt]
  simp [Result.andThen, Addr.add]
/-- lengths as Go has them -/
def ints (ns : List Nat) : List Int := ns.map fun n : Nat => (n : Int)
theorem ints_length (ns : List Nat) : (ints ns).length = ns.length := by simp [ints]
theorem ints_get (ns : List Nat) (k : Nat) (hk : k < ns.length) : (ints ns)[k]? = some (Hm.len ns k : Int) := by simp [ints, Hm.len, hk]
theorem SInts.atN {w : World} {ao : Option Addr} {ns : List Nat} (h : SInts w ao (ints ns)) (k : Nat) (hk : k < ns.length) (cap : Nat) :
    ∃ b o, (∀ w', (Instr.indexAt 32 (.slice ao ns.length cap) (.int .i64 k)).run Try.prog w' = .ok (.pointer (some ⟨b, o, none⟩)) w') ∧ w.cell? ⟨b, o, none⟩ = some (.int .i64 (Hm.len ns k : Int)) ∧ b < w.heap.size := by
  have := h.at k _ (ints_get ns k hk) cap
  rw [ints_length] at this; exact this
end Go.Proofs.Ytcjcmlnbchmnnaa
