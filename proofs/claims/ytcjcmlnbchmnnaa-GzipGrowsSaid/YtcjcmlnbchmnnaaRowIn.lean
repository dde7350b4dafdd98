/- A slice of integers that came in, as a list. -/
import Derived.Test.YtcjcmlnbchmnnaaSl
import Derived.OpenShut
namespace Go.Proofs.Ytcjcmlnbchmnnaa
open Go.RowKit

/-- it is nil; or it leads to a row of 'cap' cells, the numbers 'zs' -/
def IsRow (k : IntKind) (w : World) (a : Option Addr) (len cap : Nat) (zs : List Int) : Prop :=
  (a = none ∧ len = 0 ∧ cap = 0 ∧ zs = []) ∨
  ∃ x, a = some x ∧ len ≤ cap ∧ cap ≤ maxLen ∧ zs.length = cap ∧ (∀ i, i < zs.length → w.cell? (x.add i) = some (.int k (zs.getD i 0))) ∧ ∀ n ∈ zs, (Lit.int k n).wf = true
theorem rowInts {w : World} {a : Option Addr} {len cap : Nat} {zs : List Int} (h : IsRow .i64 w a len cap zs) :
    ∃ ls : List Int, len = ls.length ∧ SInts w a ls ∧ ls.length ≤ maxLen ∧ ∀ n ∈ ls, (Lit.int .i64 n).wf = true := by
  rcases h with ⟨rfl, rfl, rfl, rfl⟩ | ⟨x, rfl, h1, h2, h3, h4, h5⟩
  · exact ⟨[], rfl, SInts.nil _ _, Nat.zero_le _, fun n hn => by cases hn⟩
  · refine ⟨zs.take len, by rw [List.length_take]; omega, fun j y hj => ?_, by rw [List.length_take]; omega, fun n hn => h5 n (List.mem_of_mem_take hn)⟩
    have hjl : j < (zs.take len).length := (List.getElem?_eq_some_iff.1 hj).1
    rw [List.length_take] at hjl
    obtain ⟨b, off, rfl, hc⟩ := ints_at h4 (show 0 < zs.length by omega)
    refine ⟨b, off, rfl, ?_⟩
    rw [hc j (by omega)]
    rw [List.getElem?_take_of_lt (by omega)] at hj
    rw [List.getD_eq_getElem?_getD, hj]; rfl
end Go.Proofs.Ytcjcmlnbchmnnaa
