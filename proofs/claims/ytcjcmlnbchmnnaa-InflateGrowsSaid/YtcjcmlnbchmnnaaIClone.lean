/- (*inflate.Reader).Clone: its contract. -/
import Derived.Test.YtcjcmlnbchmnnaaGTail
import Derived.Test.YtcjcmlnbchmnnaaIStep
import Derived.Test.YtcjcmlnbchmnnaaIPut
namespace Go.Proofs.Ytcjcmlnbchmnnaa
open Go.RowKit

theorem wpList_bytes {ops : Array Oper} {rest : List Oper} {o : Oper} {a : Act} {Q : Exit → Act → World → Prop} {w : World} (hgd : o.guard = none) (s x : Operand)
    (ho : o.op = .call { callee := .builtin .append, args := #[s, x], argTypes := #[23, 23] }) (b0 : Nat) (v xv : Value) (l m : List UInt8) (hs : a.eval s = v) (hxv : a.eval x = xv) (hown : OutAt w b0 v l) (hx : ReadB w xv m) (hlen : l.length + m.length ≤ 140737488355328) (hb : b0 ≤ w.heap.size)
    (h : ∀ v' w', OutAt w' b0 v' (l ++ m) → w.grownBy w' v.ownBlock → wpList Try.prog ops Q rest (a.put o.dst v') w') : wpList Try.prog ops Q (o :: rest) a w := by
  refine wpList_plain hgd fun K hK => ?_
  obtain ⟨v', w', hrun, r1, r2, _⟩ := append_bytes 23 o.type Try.underlying23 hown hx hlen hb
  unfold Oper.wp
  simp [execOp, ho, resolve, invoke, builtin, hs, hxv, hrun, Result.andThen]
  exact hK _ _ (h v' w' r1 r2)
def ClonePost (most : Nat) (full : List UInt8) (c : Im.St) (w : World) (o : Ending) (w' : World) : Prop :=
  ∃ R2 bk2, o = .returned (.pointer (some ⟨R2, 0, none⟩)) ∧ HistB w' R2 bk2 most full c ∧ Below w.heap.size w w' ∧ w.heap.size ≤ R2 ∧ ∀ k, bk2 = some k → w.heap.size ≤ k
set_option maxRecDepth 100000 in
set_option maxHeartbeats 2000000 in
theorem clone_go (R : Nat) (bk : Option Nat) (most : Nat) (full : List UInt8) (c : Im.St) (w : World) (h : HistB w R bk most full c) :
    Calls Try.prog 35 #[.pointer (some ⟨R, 0, none⟩)] w (ClonePost most full c w) := by
  obtain ⟨r, a, k, hr, h1, h2, h3, h4, h5, _⟩ := h
  have gR := hr.st.at_
  have HS := Lib.hid (cells_size r)
  have HZ := Lib.hid info_rd
  have HO := Lib.hid hr.st.cells_one
  have gz : RdAt (w.alloc (.cells #[.string ⟨#[]⟩, .int .i64 0, .int .i64 0, .bool false, .int .i64 0, .pointer none, .pointer none, .slice none 0 0, .slice none 0 0, .int .i64 0, .int .i64 0, .int .i64 0] 69)) R r := gR.alloc _
  go_enter Try.func35, Try.ntmps35
  go_upto_region 2 with (first | ((with_reducible show wpList _ _ _ (⟨some 6, _, _, _, _, _⟩ :: _) _ _); refine wpList_load_row rfl 69 _ rfl R rfl 69 r.cells (0, 0) _ gR Try.underlying69 rfl HZ.out ?_) | ((with_reducible show wpList _ _ _ (⟨none, .store 69 _ _, _, _, _, _⟩ :: _) _ _); refine wpList_store_row rfl 69 _ _ rfl w.heap.size r.cells rfl rfl 69 _ (heap_alloc_new _ _) HZ.out (by rw [HS.out]; rfl) HO.out ?_))
  have hB : Below w.heap.size w ((w.alloc (.cells #[.string ⟨#[]⟩, .int .i64 0, .int .i64 0, .bool false, .int .i64 0, .pointer none, .pointer none, .slice none 0 0, .slice none 0 0, .int .i64 0, .int .i64 0, .int .i64 0] 69)).setRow w.heap.size r.cells) := belSetRow ((Below.refl w.heap.size w).alloc (Nat.le_refl _) _) (g := w.heap.size) (Nat.le_refl _) r.cells
  have gR2 : RdAt ((w.alloc (.cells #[.string ⟨#[]⟩, .int .i64 0, .int .i64 0, .bool false, .int .i64 0, .pointer none, .pointer none, .slice none 0 0, .slice none 0 0, .int .i64 0, .int .i64 0, .int .i64 0] 69)).setRow w.heap.size r.cells) w.heap.size r := setRow_heap _ w.heap.size _ _ 69 (0, 0) (heap_alloc_new _ _)
  generalize ((w.alloc (.cells #[.string ⟨#[]⟩, .int .i64 0, .int .i64 0, .bool false, .int .i64 0, .pointer none, .pointer none, .slice none 0 0, .slice none 0 0, .int .i64 0, .int .i64 0, .int .i64 0] 69)).setRow w.heap.size r.cells) = W at hB gR2 ⊢
  have gRW : RdAt W R r := gR.below hB
  have c7 := gRW.back
  have f7 := gR2.frozen 7
  have c7' := gR2.back
  have hrd : ReadB W r.back (lastN 32768 a.out) := (hr.st.back.1.below hB).reads
  have hlen : ([] : List UInt8).length + (lastN 32768 a.out).length ≤ 140737488355328 := by
    have := hr.st.out_le; have := hr.st.most_le; simp [lastN]; omega
  have hbs := hB.size
  have hnew : ∀ v' w1, OutAt w1 w.heap.size v' ([] ++ lastN 32768 a.out) → W.grownBy w1 (Value.slice none 0 0).ownBlock → RdAt w1 w.heap.size r → ClonePost most full c w (.returned (.pointer (some ⟨w.heap.size, 0, none⟩))) (w1.setCell ⟨w.heap.size, 7, none⟩ v') := by
    intro v' w1 ho hg hR1
    have hf1 : Fr (fun _ => False) w w1 := (Fr.of_below hB).grown hg (fun k hk => by simp [Value.ownBlock] at hk)
    have hb1 : Below w.heap.size w w1 := hf1.to_below (Nat.le_refl _) (fun k q => q.elim)
    have hb2 : Below w.heap.size w (w1.setCell ⟨w.heap.size, 7, none⟩ v') := hb1.setCell (Nat.le_refl _) _
    have hRs := hr.frS (S := fun _ => False) (Fr.of_below hb2) (fun q => q) (fun _ _ q => q) (fun _ q => q.elim)
    have hR2 : RdAt (w1.setCell ⟨w.heap.size, 7, none⟩ v') w.heap.size { r with back := v' } := hR1.set 7 v' rfl
    have ho2 : OutAt (w1.setCell ⟨w.heap.size, 7, none⟩ v') w.heap.size v' (lastN 32768 a.out) := by
      rw [List.nil_append] at ho
      exact ho.setOther (fun k ⟨cur, hk⟩ e => by subst e; unfold RdAt at hR1; rw [hk] at hR1; cases hR1) 7 v'
    refine ⟨w.heap.size, v'.ownBlock, rfl, ⟨{ r with back := v' }, a, k, ⟨{ at_ := hR2, bit := hr.st.bit, state := hr.st.state, last := hr.st.last, left := hr.st.left, told := hr.st.told, most_ := hr.st.most_, e := hr.st.e, out := hRs.st.out, back := ⟨ho2.base (Nat.zero_le _), fun k hk => ?_⟩, tabs := hRs.st.tabs, base := Nat.le_refl _, pos_le := hr.st.pos_le, size_le := hr.st.size_le, out_le := hr.st.out_le, most_le := hr.st.most_le, left_le := hr.st.left_le, state_le := hr.st.state_le, one := hr.st.one }, hr.out⟩, h1, h2, h3, h4, h5, rfl⟩, hb2, Nat.le_refl _, fun k hk => (ho2.row k hk).1⟩
    obtain ⟨_, cur, hc⟩ := ho2.row k hk
    exact lt_of_block hc
  clear hB gR gz hr h1 h2 h3 h4 h5
  go_wp2_with (refine wpList_bytes rfl (.const (.slice none 0 0)) (.tmp 10) rfl w.heap.size (.slice none 0 0) r.back [] (lastN 32768 a.out) (by rfl) (by rfl) (OutAt.nil _ _) hrd hlen hbs ?_; intro v' w1 ho hg; have hR1 := RdAt.grown gR2 (OutAt.nil _ w.heap.size) hg; have hfin := hnew v' w1 ho hg hR1; have k7 := hR1.back; have f7' := hR1.frozen 7; obtain ⟨a1, cap1, ev, ha1⟩ := ho.slice; subst ev)
  simp only [List.nil_append] at hfin
  exact bodyPost_ret (results_tmp (t := 2) rfl _ _ _) rfl hfin
end Go.Proofs.Ytcjcmlnbchmnnaa
