/- inflate.order: its contract. · A Reader's cells written in whatever order, calls that make memory between (no program in sight but for the numbers of its types). -/
import Derived.Test.YtcjcmlnbchmnnaaIFixed
import Derived.Laws.Tables
/-! ### IOrder -/
namespace Go.Proofs.Ytcjcmlnbchmnnaa
open Go.RowKit

def ordV : Array Value := #[.int .i64 16, .int .i64 17, .int .i64 18, .int .i64 0, .int .i64 8, .int .i64 7, .int .i64 9, .int .i64 6, .int .i64 10, .int .i64 5, .int .i64 11, .int .i64 4, .int .i64 12, .int .i64 3, .int .i64 13, .int .i64 2, .int .i64 14, .int .i64 1, .int .i64 15]
theorem info19 : (Try.prog.info? 105).map (·.size) = some ordV.size := by kernel_rfl
theorem ord_built : Try.prog.built 105 [(0, .int .i64 16), (1, .int .i64 17), (2, .int .i64 18), (3, .int .i64 0), (4, .int .i64 8), (5, .int .i64 7), (6, .int .i64 9), (7, .int .i64 6), (8, .int .i64 10), (9, .int .i64 5), (10, .int .i64 11), (11, .int .i64 4), (12, .int .i64 12), (13, .int .i64 3), (14, .int .i64 13), (15, .int .i64 2), (16, .int .i64 14), (17, .int .i64 1), (18, .int .i64 15)] = some ordV := by kernel_rfl
theorem wpList_build_as {P : Program} {ops : Array Oper} {rest : List Oper} {o : Oper} {a : Act} {w : World} {Q : Exit → Act → World → Prop} (hg : o.guard = none) (t : TypeId) (parts : Array (Nat × Operand)) (ho : o.op = .build t parts) (A : Array Value)
    (hf : P.built t (parts.map fun (i, x) => (i, a.eval x)).toList = some A)
    (h : wpList P ops Q rest (a.put o.dst (.agg A)) w) : wpList P ops Q (o :: rest) a w :=
  wpList_build hg t parts ho (by rw [hf]; rfl) (by rw [hf]; exact h)
set_option maxRecDepth 100000 in
theorem order_in (w : World) : Calls Try.prog 84 #[] w fun e w' => e = .returned (.agg ordV) ∧ Below w.heap.size w w' := by
  have HB := Lib.hid ord_built
  have HZ := Lib.hid info19
  have HO : ordV.all (·.oneCell') = true := by simp [ordV, Value.oneCell']
  have HS : ordV.size = 19 := rfl
  replace HO := Lib.hid HO
  replace HS := Lib.hid HS
  generalize ordV = A at *
  go_enter Try.func84, Try.ntmps84
  go_wp2_with (first | ((with_reducible show wpList _ _ _ (⟨_, .build _ _, _, _, _, _⟩ :: _) _ _); refine wpList_build_as rfl _ _ rfl A ?_ ?_) | ((with_reducible show wpList _ _ _ (⟨none, .store 105 _ _, _, _, _, _⟩ :: _) _ _); refine wpList_store_row rfl 105 _ _ rfl w.heap.size A rfl rfl 105 #[.int .i64 0, .int .i64 0, .int .i64 0, .int .i64 0, .int .i64 0, .int .i64 0, .int .i64 0, .int .i64 0, .int .i64 0, .int .i64 0, .int .i64 0, .int .i64 0, .int .i64 0, .int .i64 0, .int .i64 0, .int .i64 0, .int .i64 0, .int .i64 0, .int .i64 0] (heap_alloc_new _ _) HZ.out (by rw [HS.out]; rfl) HO.out ?_))
  case refine_1 => exact HB.out
  have hg := setRow_heap (w.alloc (.cells #[.int .i64 0, .int .i64 0, .int .i64 0, .int .i64 0, .int .i64 0, .int .i64 0, .int .i64 0, .int .i64 0, .int .i64 0, .int .i64 0, .int .i64 0, .int .i64 0, .int .i64 0, .int .i64 0, .int .i64 0, .int .i64 0, .int .i64 0, .int .i64 0, .int .i64 0] 105)) w.heap.size _ A 105 (0, 0) (heap_alloc_new _ _)
  have hb := belSetRow ((Below.refl w.heap.size w).alloc (Nat.le_refl _) (.cells #[.int .i64 0, .int .i64 0, .int .i64 0, .int .i64 0, .int .i64 0, .int .i64 0, .int .i64 0, .int .i64 0, .int .i64 0, .int .i64 0, .int .i64 0, .int .i64 0, .int .i64 0, .int .i64 0, .int .i64 0, .int .i64 0, .int .i64 0, .int .i64 0, .int .i64 0] 105)) (g := w.heap.size) (Nat.le_refl _) A
  exact bodyPost_ret (v := .agg A) (results_cell_row rfl _ _ w.heap.size 105 A (0, 0) _ rfl hg Try.underlying105 rfl HZ.out) rfl ⟨rfl, hb⟩
end Go.Proofs.Ytcjcmlnbchmnnaa
/-! ### IBun -/
namespace Go.Proofs.Ytcjcmlnbchmnnaa
open Go.RowKit

/-- cells written one by one, the last ahead -/
def ups (c : Array Value) : List (Nat × Value) → Array Value
  | [] => c
  | (i, v) :: l => (ups c l).setIfInBounds i v
/-- from w0 on only the Reader's cells were written, and memory made -/
def Bun (R : Nat) (r : Rd) (w0 : World) (ls : List (Nat × Value)) (W : World) : Prop := W.heap[R]? = some (.cells (ups r.cells ls) 69 (0, 0)) ∧ Fr (· = R) w0 W
theorem Bun.refl {R : Nat} {r : Rd} {w0 : World} (h : RdAt w0 R r) : Bun R r w0 [] w0 := ⟨h, Fr.refl _ _⟩
theorem Bun.start {R : Nat} {r : Rd} {w w0 : World} (h : RdAt w0 R r) (hf : Fr (· = R) w w0) : Bun R r w [] w0 := ⟨h, hf⟩
theorem Bun.drew {R : Nat} {r : Rd} {w0 W : World} {ls : List (Nat × Value)} (h : Bun R r w0 ls W) : Bun R r w0 ls W.drew := ⟨h.1, h.2.drew⟩
theorem Bun.below {R : Nat} {r : Rd} {w0 W W' : World} {ls : List (Nat × Value)} (h : Bun R r w0 ls W) (hb : Below W.heap.size W W') : Bun R r w0 ls W' := ⟨by rw [hb.block R (Array.getElem?_eq_some_iff.1 h.1).1]; exact h.1, h.2.below hb⟩
theorem Bun.set {R : Nat} {r : Rd} {w0 W : World} {ls : List (Nat × Value)} (h : Bun R r w0 ls W) {i : Nat} {v : Value} : Bun R r w0 ((i, v) :: ls) (W.setCell ⟨R, i, none⟩ v) :=
  ⟨heap_setCell_same W R i _ _ v h.1, h.2.setCell (p := ⟨R, i, none⟩) (Or.inl rfl) v⟩
theorem Bun.rd {R : Nat} {r r' : Rd} {w0 W : World} {ls : List (Nat × Value)} (h : Bun R r w0 ls W) (e : ups r.cells ls = r'.cells) : RdAt W R r' := by unfold RdAt; rw [← e]; exact h.1
theorem Bun.fr {R : Nat} {r : Rd} {w0 W : World} {ls : List (Nat × Value)} (h : Bun R r w0 ls W) : Fr (· = R) w0 W := h.2
/-- a table that was made between lies there still -/
theorem Bun.table {R : Nat} {r : Rd} {w0 W W' : World} {ls : List (Nat × Value)} {T : Nat} {ns : List Nat} (h : TableAt W T ns) (hb : Bun R r w0 ls W) (hf : Fr (· = R) W W') : TableAt W' T ns := by
  obtain ⟨M, n, hcT, D, ⟨es, clock, q1, q2⟩, q3⟩ := h
  refine ⟨M, n, ?_, D, ⟨es, clock, ?_, q2⟩, q3⟩
  · rw [hf.block T (lt_of_block hcT)]
    · exact hcT
    · rintro rfl; have := hb.1; rw [hcT] at this; injection this with this; injection this with _ q; exact absurd q (by decide)
  · rw [hf.block M (lt_of_block q1)]
    · exact q1
    · rintro rfl; have := hb.1; rw [q1] at this; injection this with this; injection this
/-! rows of ints -/
theorem IRow.parts {w : World} {B : Nat} {a0 : Option Addr} {n cap : Nat} {l : List Nat} (h : IRow w B (.slice a0 n cap) l) (h0 : 0 < l.length) :
    ∃ g, a0 = some ⟨g, 0, none⟩ ∧ B ≤ g ∧ g < w.heap.size ∧ l.length ≤ cap ∧ cap ≤ maxLen ∧ (∀ k, k < l.length → w.cell? ⟨g, k, none⟩ = some (.int .i64 ((l.getD k 0 : Nat) : Int))) := by
  rcases h.2 with ⟨_, e⟩ | ⟨g, cap', cur, ev, hb, hg, h1, h2, h3⟩
  · omega
  · cases ev
    refine ⟨g, rfl, hb, lt_of_block hg, h1, h2, fun k hk => ?_⟩
    obtain ⟨g', cap', e, hc⟩ := h.at k hk
    cases e
    rw [hc, List.getD_eq_getElem?_getD, List.getElem?_eq_getElem hk]; rfl
theorem sints_take {w : World} {g : Nat} {l : List Nat} (h : ∀ k, k < l.length → w.cell? ⟨g, k, none⟩ = some (.int .i64 ((l.getD k 0 : Nat) : Int))) (m : Nat) : SInts w (some ⟨g, 0, none⟩) (ints (l.take m)) := by
  intro j x hj
  have hlt : j < (l.take m).length := by have := (List.getElem?_eq_some_iff.1 hj).1; rwa [ints_length] at this
  refine ⟨g, 0, rfl, ?_⟩
  rw [List.length_take] at hlt
  rw [Nat.zero_add, h j (by omega)]
  rw [ints_get _ j (by rw [List.length_take]; exact hlt)] at hj
  cases hj
  unfold Hm.len
  rw [List.getD_eq_getElem?_getD, List.getD_eq_getElem?_getD, List.getElem?_take_of_lt (by omega)]
theorem sints_drop {w : World} {g : Nat} {l : List Nat} (h : ∀ k, k < l.length → w.cell? ⟨g, k, none⟩ = some (.int .i64 ((l.getD k 0 : Nat) : Int))) (m : Nat) : SInts w (some ⟨g, m, none⟩) (ints (l.drop m)) := by
  intro j x hj
  have hlt : j < (l.drop m).length := by have := (List.getElem?_eq_some_iff.1 hj).1; rwa [ints_length] at this
  refine ⟨g, m, rfl, ?_⟩
  rw [List.length_drop] at hlt
  rw [h (m + j) (by omega)]
  rw [ints_get _ j (by rw [List.length_drop]; exact hlt)] at hj
  cases hj
  unfold Hm.len
  rw [List.getD_eq_getElem?_getD, List.getD_eq_getElem?_getD, List.getElem?_drop]
theorem SInts.fr {R : Nat} {w w' : World} {g o : Nat} {ls : List Int} (h : SInts w (some ⟨g, o, none⟩) ls) (hf : Fr (· = R) w w') (hg : g ≠ R) : SInts w' (some ⟨g, o, none⟩) ls := by
  intro j x hj
  obtain ⟨b, off, h1, h2⟩ := h j x hj
  cases h1
  exact ⟨g, o, rfl, by rw [hf.cell (p := ⟨g, o + j, none⟩) (World.block_lt_of_cell? w _ h2) hg]; exact h2⟩
theorem cells_fr {R : Nat} {w w' : World} {g : Nat} {l : List Nat} (h : ∀ k, k < l.length → w.cell? ⟨g, k, none⟩ = some (.int .i64 ((l.getD k 0 : Nat) : Int))) (hf : Fr (· = R) w w') (hg : g ≠ R) : ∀ k, k < l.length → w'.cell? ⟨g, k, none⟩ = some (.int .i64 ((l.getD k 0 : Nat) : Int)) :=
  fun k hk => by rw [hf.cell (p := ⟨g, k, none⟩) (World.block_lt_of_cell? w _ (h k hk)) hg]; exact h k hk
end Go.Proofs.Ytcjcmlnbchmnnaa
