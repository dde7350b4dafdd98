/- Rows of bytes that a call owns, and what their conversion to a string gives. -/
import Derived.Test.YtcjcmlnbchmnnaaProg
import Derived.Test.YtcjcmlnbchmnnaaWords
import Derived.WalkKit
import Derived.WalkSpells
import Derived.Lib.Hide
namespace Go.Proofs.Ytcjcmlnbchmnnaa
open Go.RowKit

/-- bytes as the values of a row -/
def bvals (l : List UInt8) : List Value := l.map fun c => .int .u8 (c.toNat : Int)
theorem bvals_length (l : List UInt8) : (bvals l).length = l.length := by simp [bvals]
theorem bvals_append (a b : List UInt8) : bvals (a ++ b) = bvals a ++ bvals b := by simp [bvals]
theorem bvals_one (c : UInt8) : bvals [c] = [.int .u8 (c.toNat : Int)] := rfl
theorem bvals_ints (l : List UInt8) : bvals l = (l.map fun c => (c.toNat : Int)).map (Value.int .u8) := by simp [bvals]
theorem bvals_one' (l : List UInt8) : ∀ u ∈ bvals l, u.oneCell' = true := by rw [bvals_ints]; exact ints_oneCell _ _
theorem bvals_get (l : List UInt8) (k : Nat) (h : k < l.length) : (bvals l)[k]? = some (.int .u8 (l[k].toNat : Int)) := by simp [bvals, h]
theorem bvals_set (l : List UInt8) (k : Nat) (c : UInt8) : (bvals l).set k (.int .u8 (c.toNat : Int)) = bvals (l.set k c) := by simp [bvals, List.map_set]
theorem bvals_zeros (n : Nat) : List.replicate n (Value.int .u8 0) = bvals (List.replicate n 0) := by simp [bvals]

theorem push_bytes (l : List UInt8) (r : ByteArray) : (l.map fun c => (c.toNat : Int)).foldl (fun r n => r.push (UInt8.ofNat n.toNat)) r = ⟨(r.data.toList ++ l).toArray⟩ := by
  induction l generalizing r with
  | nil => simp
  | cons c l ih =>
    rw [List.map_cons, List.foldl_cons, ih]
    simp [ByteArray.push, Array.push]

theorem conv_cells (w : World) (a : Addr) (n cap : Nat) (l : List UInt8) (hl : l.length = n) (hc : ∀ j u, (bvals l)[j]? = some u → w.cell? (a.add j) = some u) :
    (convert 23 9 (.slice (some a) n cap)).run Try.prog w = .ok (.string ⟨l.toArray⟩) w := by
  rw [run_convert_bytes_string w _ _ 5 _ _ _ Try.underlying23 Try.underlying5 Try.underlying9]
  have h := run_loadCells_list (P := Try.prog) w a (bvals l) hc
  rw [bvals_length, hl, bvals_ints] at h
  rw [run_bytesToString w a n cap _ h, push_bytes]
  rfl

theorem conv_own {w : World} {base n : Nat} {v : Value} {l : List UInt8} (h : w.ownsRow base 5 1 v n (bvals l)) :
    (convert 23 9 v).run Try.prog w = .ok (.string ⟨l.toArray⟩) w := by
  have hl := h.1
  rw [bvals_length, Nat.mul_one] at hl
  rcases h.2 with ⟨rfl, rfl⟩ | ⟨g, cap, cur, rfl, _⟩
  · obtain rfl : l = [] := List.eq_nil_of_length_eq_zero hl
    rw [run_convert_bytes_string w _ _ 5 _ _ _ Try.underlying23 Try.underlying5 Try.underlying9]
    rfl
  · exact conv_cells w _ n cap l hl (h.cells rfl)

theorem cell_own {w : World} {base n cap g : Nat} {l : List UInt8} (h : w.ownsRow base 5 1 (.slice (some ⟨g, 0, none⟩) n cap) n (bvals l)) (k : Nat) (hk : k < n) :
    ∃ c : UInt8, l[k]? = some c ∧ w.cell? ⟨g, k, none⟩ = some (.int .u8 (c.toNat : Int)) := by
  have hl := h.1
  rw [bvals_length, Nat.mul_one] at hl
  refine ⟨l[k], by simp, ?_⟩
  rw [h.cellAt k (by omega), bvals_get l k (by omega)]
theorem stored_own {w : World} {base n cap g : Nat} {l : List UInt8} (h : w.ownsRow base 5 1 (.slice (some ⟨g, 0, none⟩) n cap) n (bvals l)) (k : Nat) (c : UInt8) :
    (w.setCell ⟨g, k, none⟩ (.int .u8 (c.toNat : Int))).ownsRow base 5 1 (.slice (some ⟨g, 0, none⟩) n cap) n (bvals (l.set k c)) := by
  rw [← bvals_set]; exact (h.stored k _).1
theorem new_bytes (w : World) (vs : Array Value) (T : TypeId) (l : List UInt8) (h : vs.toList = bvals l) :
    ∀ j u, (bvals l)[j]? = some u → (w.alloc (.cells vs T)).cell? ((⟨w.heap.size, 0, none⟩ : Addr).add j) = some u := by
  intro j u hj
  have e : ((⟨w.heap.size, 0, none⟩ : Addr).add j) = ⟨w.heap.size, j, none⟩ := by simp only [Addr.add]; split <;> simp_all
  rw [e, cell_of_row _ _ _ vs T (0, 0) (heap_alloc_new w _), ← Array.getElem?_toList, h, hj]
theorem mod_byte (m : Nat) : (m : Int) % 256 = ((UInt8.ofNat m).toNat : Int) := by rw [UInt8.toNat_ofNat']; simp
theorem dig_get (x : Nat) (h : x < (ByteArray.mk #[48, 49, 50, 51, 52, 53, 54, 55, 56, 57, 97, 98, 99, 100, 101, 102]).size) :
    (ByteArray.mk #[48, 49, 50, 51, 52, 53, 54, 55, 56, 57, 97, 98, 99, 100, 101, 102])[x] = Cm.digit x := by
  have h' : x < 16 := h
  have all : ∀ x : Fin 16, (ByteArray.mk #[48, 49, 50, 51, 52, 53, 54, 55, 56, 57, 97, 98, 99, 100, 101, 102])[x.val]'(x.isLt) = Cm.digit x.val := by decide
  exact all ⟨x, h'⟩
theorem info_u8 : (Try.prog.info? 5).map (fun i => (i.zero, i.size, i.bytes)) = some (some (.int .u8 0), 1, 1) := by kernel_rfl
end Go.Proofs.Ytcjcmlnbchmnnaa
