/- Bytes whose row bears a mark behind its capacity ([]byte of a string): one byte appended; turned back into a string. -/
import Derived.Test.YtcjcmlnbchmnnaaIApp
import Derived.ArgAppend
namespace Go.Proofs.Ytcjcmlnbchmnnaa
open Go.RowKit

/-- bytes in a row that the call made, whatever the row's mark: its cells may be written -/
structure MB (w0 w : World) (v : Value) (l : List UInt8) : Prop where
  ex : ∃ g cap, v = .slice (some ⟨g, 0, none⟩) l.length cap ∧ w0.heap.size ≤ g ∧ l.length ≤ cap ∧ (∀ j (hj : j < l.length), w.cell? ⟨g, j, none⟩ = some (.int .u8 (l[j].toNat : Int))) ∧
    (∀ j, j < cap → (w.cell? ⟨g, j, none⟩).isSome = true ∧ w.frozen? ⟨g, j, none⟩ = false)
  bel : Below w0.heap.size w0 w
theorem mb_conv (w0 w : World) (s : ByteArray) (hb : Below w0.heap.size w0 w) : ∃ v w', (convert 9 23 (.string s)).run Try.prog w = .ok v w' ∧ MB w0 w' v s.data.toList := by
  have hge := grownCap_ge w s.size 0 5
  have hbl : s.data.toList.length = s.size := blen s
  have hC : ∀ j, (w.drew.alloc (.cells (bytesRow s (grownCap w s.size 0 5)) 5 ((bytesRow s (grownCap w s.size 0 5)).size, (bytesRow s (grownCap w s.size 0 5)).size + 1))).cell? ⟨w.heap.size, j, none⟩ = (bytesRow s (grownCap w s.size 0 5))[j]? := fun j => World.cell?_alloc_mark w.drew _ _ _ j
  have hF : ∀ j, (w.drew.alloc (.cells (bytesRow s (grownCap w s.size 0 5)) 5 ((bytesRow s (grownCap w s.size 0 5)).size, (bytesRow s (grownCap w s.size 0 5)).size + 1))).frozen? ⟨w.heap.size, j, none⟩ = (decide ((bytesRow s (grownCap w s.size 0 5)).size ≤ j) && decide (j < (bytesRow s (grownCap w s.size 0 5)).size + 1)) := fun j => World.frozen?_alloc_mark w.drew _ _ _ _ j
  have hsz : (bytesRow s (grownCap w s.size 0 5)).size = grownCap w s.size 0 5 := by
    unfold bytesRow
    have : s.data.size = s.size := rfl
    simp [this]
    omega
  refine ⟨_, _, run_bytes_of_string w _ _ 5 s Try.underlying9 Try.underlying23 Try.underlying5, ⟨w.heap.size, _, by rw [hbl], hb.size, by rw [hbl]; exact hge, fun j hj => ?_, fun j hj => ⟨?_, ?_⟩⟩, hb.drew.alloc hb.size _⟩
  · have hj2 : j < s.data.size := by rw [← Array.length_toList]; exact hj
    rw [hC, bytesRow_at s _ j hj2, Array.getElem_toList]
  · rw [hC, Array.getElem?_eq_getElem (by rw [hsz]; exact hj)]; rfl
  · rw [hF, decide_eq_false (by rw [hsz]; omega)]; rfl
theorem mb_back {w0 w : World} {v : Value} {l : List UInt8} (h : MB w0 w v l) : (convert 23 9 v).run Try.prog w = .ok (.string ⟨l.toArray⟩) w := by
  obtain ⟨g, cap, rfl, h1, h2, h3, h4⟩ := h.ex
  refine conv_cells w _ l.length cap l rfl ?_
  intro j u hu
  have e : ((⟨g, 0, none⟩ : Addr).add j) = ⟨g, j, none⟩ := by simp only [Addr.add]; split <;> simp_all
  have hj : j < (bvals l).length := (List.getElem?_eq_some_iff.1 hu).1
  rw [bvals_length] at hj
  rw [bvals_get _ _ hj] at hu
  injection hu with hu
  subst hu
  rw [e]
  exact h3 j hj
theorem MB.below {w0 w w' : World} {v : Value} {l : List UInt8} (h : MB w0 w v l) (hb : Below w.heap.size w w') : MB w0 w' v l := by
  obtain ⟨g, cap, rfl, h1, h2, h3, h4⟩ := h.ex
  by_cases hcap : cap = 0
  · subst hcap
    exact ⟨⟨g, 0, rfl, h1, h2, fun j hj => by omega, fun j hj => by omega⟩, belThen h.bel hb⟩
  · have hlt : g < w.heap.size := by
      have := (h4 0 (by omega)).1
      obtain ⟨u, hu⟩ := Option.isSome_iff_exists.1 this
      exact World.block_lt_of_cell? w ⟨g, 0, none⟩ hu
    have hblk := hb.block g hlt
    have hce : ∀ j, w'.cell? ⟨g, j, none⟩ = w.cell? ⟨g, j, none⟩ := fun j => World.cell?_of_block (w := w) hblk
    have hfe : ∀ j, w'.frozen? ⟨g, j, none⟩ = w.frozen? ⟨g, j, none⟩ := fun j => World.frozen?_of_block (w := w) hblk
    exact ⟨⟨g, cap, rfl, h1, h2, fun j hj => by rw [hce]; exact h3 j hj, fun j hj => by rw [hce, hfe]; exact h4 j hj⟩, belThen h.bel hb⟩
set_option maxRecDepth 100000 in
theorem wpList_mb {ops : Array Oper} {rest : List Oper} {o : Oper} {a : Act} {Q : Exit → Act → World → Prop} {w : World} (hgd : o.guard = none) (sl x : Operand)
    (ho : o.op = .call { callee := .builtin .append, args := #[sl, x], argTypes := #[23, 23] }) (w0 : World) (v : Value) (l : List UInt8) (hs : a.eval sl = v) (c : UInt8)
    (hx : a.eval x = .slice (some ⟨w.heap.size, 0, none⟩) 1 1) (hm : MB w0 w v l) (hz : l.length + 1 ≤ 1000)
    (h : ∀ v' w', MB w0 w' v' (l ++ [c]) → wpList Try.prog ops Q rest (a.put o.dst v') w') : wpList Try.prog ops Q (o :: rest) a (w.alloc (.cells #[.int .u8 (c.toNat : Int)] 5)) := by
  obtain ⟨i0, hi, hz0, hz1, hz2⟩ := info_parts info_u8
  have hmA := hm.below ((Below.refl w.heap.size w).alloc (Nat.le_refl _) (.cells #[.int .u8 (c.toNat : Int)] 5))
  obtain ⟨g, cap, rfl, h1, h2, h3, h4⟩ := hmA.ex
  have hnb : ∀ j u, (bvals [c])[j]? = some u → (w.alloc (.cells #[.int .u8 (c.toNat : Int)] 5)).cell? ((⟨w.heap.size, 0, none⟩ : Addr).add j) = some u := new_bytes w #[.int .u8 (c.toNat : Int)] 5 [c] rfl
  generalize w.alloc (.cells #[.int .u8 (c.toNat : Int)] 5) = wA at *
  refine wpList_append_arg wA hgd sl x 23 ho 5 i0 (.int .u8 0) 1 1 Try.underlying23 hi hz0 hz1 hz2 rfl (by decide) g 0 l.length cap (bvals l) hs (by rw [bvals_length, Nat.mul_one]) (fun j u hu => ?_) ⟨w.heap.size, 0, none⟩ 1 1 (bvals [c]) hx rfl hnb (bvals_one' _) (fun hr j hj => ?_) (by unfold maxLen; omega) (by omega) (fun hr => ?_) (fun hr v' w' ho' hg' => ?_)
  · have hj : j < (bvals l).length := (List.getElem?_eq_some_iff.1 hu).1
    rw [bvals_length] at hj
    rw [bvals_get _ _ hj] at hu
    injection hu with hu
    subst hu
    rw [Nat.zero_add]
    exact h3 j hj
  · have : j = 0 := by rw [bvals_length] at hj; simp at hj; exact hj
    subst this
    have e : 0 + l.length * 1 + 0 = l.length := by omega
    rw [e]
    exact h4 l.length (by omega)
  · have e : 0 + l.length * 1 = l.length := by omega
    rw [e]
    have e2 : wA.setCells g l.length (bvals [c]) = wA.setCell ⟨g, l.length, none⟩ (.int .u8 (c.toNat : Int)) := rfl
    rw [e2]
    have hll : (l ++ [c]).length = l.length + 1 := by simp
    refine h _ _ ⟨⟨g, cap, by rw [hll], h1, by rw [hll]; exact hr, fun j hj => ?_, fun j hj => ?_⟩, hmA.bel.setCell (by exact h1) _⟩
    · by_cases hjl : j = l.length
      · subst hjl
        obtain ⟨u, hu⟩ := Option.isSome_iff_exists.1 (h4 l.length (by omega)).1
        rw [World.cell?_setCell_same wA _ _ hu]
        simp
      · rw [World.cell?_setCell_other wA _ _ _ (by intro q; injection q with _ q; exact hjl q.symm)]
        have hj2 : j < l.length := by omega
        rw [h3 j hj2, List.getElem_append_left hj2]
    · rw [World.frozen?_setCell]
      refine ⟨?_, (h4 j hj).2⟩
      by_cases hjl : j = l.length
      · subst hjl
        obtain ⟨u, hu⟩ := Option.isSome_iff_exists.1 (h4 l.length hj).1
        rw [World.cell?_setCell_same wA _ _ hu]
        rfl
      · rw [World.cell?_setCell_other wA _ _ _ (by intro q; injection q with _ q; exact hjl q.symm)]
        exact (h4 j hj).1
  · rcases ho'.2 with ⟨_, q⟩ | ⟨g', cap', cur, rfl, b1, b2, b3, b4, b5, b6⟩
    · omega
    · have hll : (l ++ [c]).length = l.length + 1 := by simp
      refine h _ _ ⟨⟨g', cap', by rw [hll], Nat.le_trans hmA.bel.size b1, by rw [hll]; exact b3, fun j hj => ?_, fun j hj => ⟨?_, frozen_of_row _ _ _ _ _ b2⟩⟩, hmA.bel.grown hg' hmA.bel.size (fun k hk => by cases hk)⟩
      · have hh := World.ownsRow.cellAt ho' j (by rw [Nat.mul_one]; rw [hll] at hj; exact hj)
        rw [← bvals_append] at hh
        rw [hh]
        exact bvals_get _ _ hj
      · rw [cell_of_row w' g' j cur _ _ b2, Array.getElem?_eq_getElem (by omega)]
        rfl
end Go.Proofs.Ytcjcmlnbchmnnaa
