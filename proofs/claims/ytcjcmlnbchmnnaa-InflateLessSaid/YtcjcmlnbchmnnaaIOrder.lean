/- inflate.order: its contract. -/
import Derived.Test.YtcjcmlnbchmnnaaIFixed
import Derived.Laws.Tables
namespace Go.Proofs.Ytcjcmlnbchmnnaa
open Go.RowKit

def ordV : Array Value := #[.int .i64 16, .int .i64 17, .int .i64 18, .int .i64 0, .int .i64 8, .int .i64 7, .int .i64 9, .int .i64 6, .int .i64 10, .int .i64 5, .int .i64 11, .int .i64 4, .int .i64 12, .int .i64 3, .int .i64 13, .int .i64 2, .int .i64 14, .int .i64 1, .int .i64 15]
theorem info19 : (Try.prog.info? 105).map (·.size) = some ordV.size := by kernel_rfl
theorem ord_built : Try.prog.built 105 [(0, .int .i64 16), (1, .int .i64 17), (2, .int .i64 18), (3, .int .i64 0), (4, .int .i64 8), (5, .int .i64 7), (6, .int .i64 9), (7, .int .i64 6), (8, .int .i64 10), (9, .int .i64 5), (10, .int .i64 11), (11, .int .i64 4), (12, .int .i64 12), (13, .int .i64 3), (14, .int .i64 13), (15, .int .i64 2), (16, .int .i64 14), (17, .int .i64 1), (18, .int .i64 15)] = some ordV := by kernel_rfl
theorem wpList_build_as {P : Program} {ops : Array Oper} {rest : List Oper} {o : Oper} {a : Act} {w : World} {Q : Exit → Act → World → Prop} (hg : o.guard = none) (t : TypeId) (parts : Array (Nat × Operand)) (ho : o.op = .build t parts) (A : Array Value)
    (hf : P.built t (parts.map fun (i, x) => (i, a.eval x)).toList = some A)
    (h : wpList P ops Q rest (a.put o.dst (.agg A)) w) : wpList P ops Q (o :: rest) a w :=
  wpList_build hg t parts ho (by rw [hf]; rfl) (by rw [hf]; exact h)
set_option maxRecDepth 100000 in
theorem order_in (w : World) : Calls Try.prog 84 #[] w fun e w' => e = .returned (.agg ordV) ∧ Below w.heap.size w w' := by
  have HB := Lib.hid ord_built
  have HZ := Lib.hid info19
  have HO : ordV.all (·.oneCell') = true := by simp [ordV, Value.oneCell']
  have HS : ordV.size = 19 := rfl
  replace HO := Lib.hid HO
  replace HS := Lib.hid HS
  generalize ordV = A at *
  go_enter Try.func84, Try.ntmps84
  go_wp2_with (first | ((with_reducible show wpList _ _ _ (⟨_, .build _ _, _, _, _, _⟩ :: _) _ _); refine wpList_build_as rfl _ _ rfl A ?_ ?_) | ((with_reducible show wpList _ _ _ (⟨none, .store 105 _ _, _, _, _, _⟩ :: _) _ _); refine wpList_store_row rfl 105 _ _ rfl w.heap.size A rfl rfl 105 #[.int .i64 0, .int .i64 0, .int .i64 0, .int .i64 0, .int .i64 0, .int .i64 0, .int .i64 0, .int .i64 0, .int .i64 0, .int .i64 0, .int .i64 0, .int .i64 0, .int .i64 0, .int .i64 0, .int .i64 0, .int .i64 0, .int .i64 0, .int .i64 0, .int .i64 0] (heap_alloc_new _ _) HZ.out (by rw [HS.out]; rfl) HO.out ?_))
  case refine_1 => exact HB.out
  have hg := setRow_heap (w.alloc (.cells #[.int .i64 0, .int .i64 0, .int .i64 0, .int .i64 0, .int .i64 0, .int .i64 0, .int .i64 0, .int .i64 0, .int .i64 0, .int .i64 0, .int .i64 0, .int .i64 0, .int .i64 0, .int .i64 0, .int .i64 0, .int .i64 0, .int .i64 0, .int .i64 0, .int .i64 0] 105)) w.heap.size _ A 105 (0, 0) (heap_alloc_new _ _)
  have hb := belSetRow ((Below.refl w.heap.size w).alloc (Nat.le_refl _) (.cells #[.int .i64 0, .int .i64 0, .int .i64 0, .int .i64 0, .int .i64 0, .int .i64 0, .int .i64 0, .int .i64 0, .int .i64 0, .int .i64 0, .int .i64 0, .int .i64 0, .int .i64 0, .int .i64 0, .int .i64 0, .int .i64 0, .int .i64 0, .int .i64 0, .int .i64 0] 105)) (g := w.heap.size) (Nat.le_refl _) A
  exact bodyPost_ret (v := .agg A) (results_cell_row rfl _ _ w.heap.size 105 A (0, 0) _ rfl hg Try.underlying105 rfl HZ.out) rfl ⟨rfl, hb⟩
end Go.Proofs.Ytcjcmlnbchmnnaa
