/- (*inflate.Reader).tables: its contract by the model. -/
import Derived.Test.YtcjcmlnbchmnnaaILengths
import Derived.Test.YtcjcmlnbchmnnaaIOrder
namespace Go.Proofs.Ytcjcmlnbchmnnaa
open Go.RowKit

namespace Im
def bindE {α β : Type} (x : Except Int α) (K : α → Except Int β) : Except Int β := match x with
  | .error e => .error e
  | .ok v => K v
/-- what follows the lengths of the lengths' codes -/
def tabsK (s : List UInt8) (a : St) (hl hd : Nat) (v : List Nat × Nat) : Except Int St :=
  if Hm.err v.1 ≠ 0 then .error 90 else bindE (lensP v.1 s (hl + 257 + hd + 1) (hl + 257 + hd + 2) v.2 []) fun v =>
    if v.1.getD 256 0 = 0 then .error 90 else if Hm.err (v.1.take (hl + 257)) ≠ 0 ∨ Hm.err (v.1.drop (hl + 257)) ≠ 0 then .error 90
      else .ok { a with pos := v.2, state := 2, lit := v.1.take (hl + 257), dist := v.1.drop (hl + 257) }
theorem tabsP_eq (s : List UInt8) (a : St) : tabsP s a = bindE (bitsP s a.pos 5) fun v1 => bindE (bitsP s v1.2 5) fun v2 => bindE (bitsP s v2.2 4) fun v3 =>
    if ¬ (v1.1 ≤ 29 ∧ v2.1 ≤ 29) then .error 90 else bindE (ownP s (order.take (v3.1 + 4)) (List.replicate 19 0) v3.2) (tabsK s a v1.1 v2.1) := by
  unfold tabsP bindE
  rcases bitsP s a.pos 5 with e | ⟨hl, p1⟩
  · rfl
  dsimp only
  rcases bitsP s p1 5 with e | ⟨hd, p2⟩
  · rfl
  dsimp only
  rcases bitsP s p2 4 with e | ⟨hc, p3⟩
  · rfl
  dsimp only
  by_cases h1 : ¬ (hl ≤ 29 ∧ hd ≤ 29)
  · rw [if_pos h1, if_pos h1]
  rw [if_neg h1, if_neg h1]
  rcases ownP s (order.take (hc + 4)) (List.replicate 19 0) p3 with e | ⟨own, p4⟩
  · rfl
  dsimp only
  unfold tabsK
  by_cases h2 : Hm.err own ≠ 0
  · rw [if_pos h2, if_pos h2]
  rw [if_neg h2, if_neg h2]
  rcases lensP own s (hl + 257 + hd + 1) (hl + 257 + hd + 2) p4 [] with e | ⟨l, p5⟩ <;> rfl
end Im
def nul19 : Array Value := #[.int .i64 0, .int .i64 0, .int .i64 0, .int .i64 0, .int .i64 0, .int .i64 0, .int .i64 0, .int .i64 0, .int .i64 0, .int .i64 0, .int .i64 0, .int .i64 0, .int .i64 0, .int .i64 0, .int .i64 0, .int .i64 0, .int .i64 0, .int .i64 0, .int .i64 0]
def TabsPost (R : Nat) (r : Rd) (w : World) (x : Except Int Im.St) (o : Ending) (w' : World) : Prop :=
  match x with
  | .ok a => o = .returned (.tuple #[]) ∧ (∃ T D, RdAt w' R { r with bit := (a.pos : Int), state := 2, lit := .pointer (some ⟨T, 0, none⟩), dist := .pointer (some ⟨D, 0, none⟩) } ∧ TableAt w' T a.lit ∧ TableAt w' D a.dist) ∧ Fr (· = R) w w'
  | .error e => o = stopped e ∧ Fr (· = R) w w'
theorem TabsPost.stops {R : Nat} {r : Rd} {w : World} {X : Except Int Im.St} {e : Int} (hX : .error e = X) {w' : World} (hf : Fr (· = R) w w') : TabsPost R r w X (stopped e) w' := by subst hX; exact ⟨rfl, hf⟩
theorem TabsPost.ends {R : Nat} {r : Rd} {w : World} {X : Except Int Im.St} {a : Im.St} (hX : .ok a = X) {T D : Nat} {w' : World} (hR : RdAt w' R { r with bit := (a.pos : Int), state := 2, lit := .pointer (some ⟨T, 0, none⟩), dist := .pointer (some ⟨D, 0, none⟩) }) (h1 : TableAt w' T a.lit) (h2 : TableAt w' D a.dist) (hf : Fr (· = R) w w') : TabsPost R r w X (.returned (.tuple #[])) w' := by
  subst hX; exact ⟨rfl, ⟨T, D, hR, h1, h2⟩, hf⟩
theorem lies_alloc {w : World} {g : Nat} {o : Obj} (o' : Obj) (h : w.heap[g]? = some o) : (w.alloc o').heap[g]? = some o := by rw [Below.heap_alloc w o' g (Array.getElem?_eq_some_iff.1 h).1]; exact h
theorem lies_below {w w' : World} {g : Nat} {o : Obj} (h : w.heap[g]? = some o) (hb : Below w.heap.size w w') : w'.heap[g]? = some o := by rw [hb.block g (Array.getElem?_eq_some_iff.1 h).1]; exact h
theorem new_at (w : World) (o : Obj) {g : Nat} (h : g = w.heap.size) : (w.alloc o).heap[g]? = some o := by subst h; exact heap_alloc_new w o
theorem run_store19 {P : Program} (w : World) (g : Nat) (t : TypeId) (V : Array Value) (hg : w.heap[g]? = some (.cells nul19 t (0, 0))) (hs : V.size = 19) (h1 : V.all (·.oneCell') = true) :
    (storeCells ⟨g, 0, none⟩ V.toList).run P w = .ok () (w.setRow g V) := by
  have := run_storeCells_from (P := P) g t V.toList 0 nul19 w hg (by rw [Array.length_toList, hs]; rfl) (fun v hv => (Array.all_eq_true_iff_forall_mem.1 h1) v (by simpa using hv))
  rw [this, List.take_zero, List.nil_append, Array.toArray_toList]
theorem lies_drew {w : World} {g : Nat} {o : Obj} (h : w.heap[g]? = some o) : w.drew.heap[g]? = some o := h
theorem lies_setRow {w : World} {g g' : Nat} {o : Obj} (h : w.heap[g]? = some o) (hne : g ≠ g') (cs : Array Value) : (w.setRow g' cs).heap[g]? = some o := by
  simp only [World.setRow, Array.getElem?_modify]; rw [if_neg (fun e => hne e.symm)]; exact h
theorem ord_at : ∀ k, k < 19 → ordV[k]? = some (.int .i64 ((Im.order.getD k 0 : Nat) : Int)) := by
  have e : ordV.toList = Im.order.map fun n : Nat => Value.int .i64 (n : Int) := rfl
  intro k hk
  rw [← Array.getElem?_toList, e, List.getElem?_map, List.getD_eq_getElem?_getD, List.getElem?_eq_getElem (by exact hk)]; rfl
theorem order_lt : ∀ k, k < 19 → Im.order.getD k 0 < 19 := by decide
/-- the lengths' row and the order's block are made -/
def TabsCut (R : Nat) (r : Rd) (w : World) (p3 : Nat) (v1 v2 : Value) (wx : World) : Prop :=
  ∃ g1 g2, v1 = .slice (some ⟨g1, 0, none⟩) 19 19 ∧ v2 = .pointer (some ⟨g2, 0, none⟩) ∧ g1 ≠ g2 ∧ w.heap.size ≤ g1 ∧ w.heap.size ≤ g2 ∧ wx.rowIs g1 3 19 (fun _ => .int .i64 0) ∧ wx.heap[g2]? = some (.cells ordV 105 (0, 0)) ∧ RdAt wx R { r with bit := (p3 : Int) } ∧ Fr (· = R) w wx
theorem TabsCut.of {R : Nat} {r : Rd} {w w3 U : World} {p3 g1 g2 : Nat} {A V : Array Value} (hA1 : A.size = 19) (hA2 : ∀ i, i < 19 → A[i]? = some (.int .i64 0)) (hV : ordV = V) (hR : RdAt w3 R { r with bit := (p3 : Int) }) (hf : Fr (· = R) w w3) (hb : Below w3.heap.size w3 U)
    (h1 : U.heap[g1]? = some (.cells A 3 (0, 0))) (h2 : ∃ Z, U.heap[g2]? = some (.cells Z 105 (0, 0))) (hne : g1 ≠ g2) (l1 : w3.heap.size ≤ g1) (l2 : w3.heap.size ≤ g2) :
    TabsCut R r w p3 (.slice (some ⟨g1, 0, none⟩) 19 19) (.pointer (some ⟨g2, 0, none⟩)) (U.setRow g2 V) := by
  subst hV
  obtain ⟨Z, h2⟩ := h2
  have hb2 := belSetRow hb (g := g2) l2 ordV
  have hz := hf.size
  exact ⟨g1, g2, rfl, rfl, hne, Nat.le_trans hz l1, Nat.le_trans hz l2, ⟨A, lies_setRow h1 hne _, hA1, hA2⟩, setRow_heap U g2 _ ordV _ _ h2, hR.below hb2, hf.below hb2⟩
/-- a row of ints that lies apart from the Reader is as it was -/
theorem rowFr {R : Nat} {w w' : World} {g : Nat} {t : TypeId} {n : Nat} {f : Nat → Value} (h : w.rowIs g t n f) (hf : Fr (· = R) w w') (hg : g ≠ R) : w'.rowIs g t n f := h.of_block (hf.block g h.lt hg)
def ownF (l : List Nat) (i : Nat) : Value := .int .i64 ((l.getD i 0 : Nat) : Int)
namespace Im
theorem ownP_ok {s : List UInt8} : ∀ (is own : List Nat) (pos : Nat) (own' : List Nat) (p' : Nat), ownP s is own pos = .ok (own', p') → own'.length = own.length ∧ (Hm.Short own → Hm.Short own')
  | [], _, _, _, _, h => by cases h; exact ⟨rfl, id⟩
  | i :: is, own, pos, own', p', h => by
    unfold ownP at h
    cases hk : bitsP s pos 3 with
    | error e => rw [hk] at h; cases h
    | ok v =>
      obtain ⟨x, p⟩ := v
      rw [hk] at h
      obtain ⟨h1, h2⟩ := ownP_ok is _ p _ _ h
      have hx := (bitsP_ok hk).1
      refine ⟨by rw [h1, List.length_set], fun hs => h2 fun n hn => ?_⟩
      rcases List.mem_or_eq_of_mem_set hn with q | q
      · exact hs n q
      · omega
end Im
set_option maxRecDepth 100000 in
set_option maxHeartbeats 4000000 in
theorem tables_model (R : Nat) (r : Rd) (a : Im.St) (w : World) (hR : RdAt w R r) (hp : r.bit = a.pos) (hpos : a.pos ≤ 8 * r.s.size) (hs : r.s.size ≤ 281474976710656) :
    Calls Try.prog 74 #[.pointer (some ⟨R, 0, none⟩)] w (TabsPost R r w (Im.tabsP r.s.data.toList a)) := by
  have hX := Im.tabsP_eq r.s.data.toList a
  generalize Im.tabsP r.s.data.toList a = X at *
  have HB1 := bits_moves R r a.pos 5 w hR hp (by omega) hpos hs
  cases h1 : Im.bitsP r.s.data.toList a.pos 5 with
  | error e =>
    rw [h1] at hX HB1
    have HX : Hid (.error e = X) := hX.symm
    clear hX h1
    go_enter Try.func74, Try.ntmps74
    go_wp2_with (go_at_call 57; refine HB1.mono ?_; rintro o w2 ⟨he, hf2⟩; unfold stopped at he; subst he)
    exact ⟨rfl, TabsPost.stops HX.out hf2⟩
  | ok v =>
  obtain ⟨hl, p1⟩ := v
  rw [h1] at hX HB1
  obtain ⟨l1, l2, l3⟩ := Im.bitsP_ok h1
  rw [blen] at l3
  clear h1 l2
  have HB2 := fun w' hR' => bits_moves R { r with bit := (p1 : Int) } p1 5 w' hR' rfl (by omega) l3 hs
  simp only [Im.bindE] at hX
  cases h1 : Im.bitsP r.s.data.toList p1 5 with
  | error e =>
    simp only [h1] at hX HB2
    have HX : Hid (.error e = X) := hX.symm
    clear hX h1
    go_enter Try.func74, Try.ntmps74
    go_wp2_with (first | (go_at_call 57; refine HB1.mono ?_; rintro o w1 ⟨rfl, hR1, hf1⟩; clear HB1) | (go_at_call 57; refine (HB2 _ hR1).mono ?_; rintro o w2 ⟨he, hf2⟩; unfold stopped at he; subst he))
    exact ⟨rfl, TabsPost.stops HX.out (hf1.trans hf2)⟩
  | ok v =>
  obtain ⟨hd, p2⟩ := v
  simp only [h1] at hX HB2
  obtain ⟨d1, d2, d3⟩ := Im.bitsP_ok h1
  rw [blen] at d3
  clear h1 d2
  have HB3 := fun w' hR' => bits_moves R { r with bit := (p2 : Int) } p2 4 w' hR' rfl (by omega) d3 hs
  cases h1 : Im.bitsP r.s.data.toList p2 4 with
  | error e =>
    simp only [h1] at hX HB3
    have HX : Hid (.error e = X) := hX.symm
    clear hX h1
    go_enter Try.func74, Try.ntmps74
    go_wp2_with (first | (go_at_call 57; refine HB1.mono ?_; rintro o w1 ⟨rfl, hR1, hf1⟩; clear HB1) | (go_at_call 57; refine (HB2 _ hR1).mono ?_; rintro o w2 ⟨rfl, hR2, hf2⟩; clear HB2) | (go_at_call 57; refine (HB3 _ hR2).mono ?_; rintro o w3 ⟨he, hf3⟩; unfold stopped at he; subst he))
    exact ⟨rfl, TabsPost.stops HX.out ((hf1.trans hf2).trans hf3)⟩
  | ok v =>
  obtain ⟨hc, p3⟩ := v
  simp only [h1] at hX HB3
  obtain ⟨c1, c2, c3⟩ := Im.bitsP_ok h1
  rw [blen] at c3
  clear h1 c2
  by_cases h29 : ¬ (hl ≤ 29 ∧ hd ≤ 29)
  · rw [if_pos h29] at hX
    have HX : Hid (.error 90 = X) := hX.symm
    clear hX
    by_cases hl29 : hl ≤ 29
    · have q1 : decide ((hl : Int) ≤ 29) = true := by simp; omega
      have q2 : decide ((hd : Int) ≤ 29) = false := by simp; omega
      clear h29
      go_enter Try.func74, Try.ntmps74
      go_wp2_with (first | (go_at_call 57; refine HB1.mono ?_; rintro o w1 ⟨rfl, hR1, hf1⟩; clear HB1) | (go_at_call 57; refine (HB2 _ hR1).mono ?_; rintro o w2 ⟨rfl, hR2, hf2⟩; clear HB2) | (go_at_call 57; refine (HB3 _ hR2).mono ?_; rintro o w3 ⟨rfl, hR3, hf3⟩; clear HB3) | (go_at_call 71; refine (must_no _ _).mono ?_; rintro e w' ⟨he, rfl⟩; unfold stopped at he; subst he))
      exact ⟨rfl, TabsPost.stops HX.out ((hf1.trans hf2).trans hf3)⟩
    · have q1 : decide ((hl : Int) ≤ 29) = false := by simp; omega
      clear h29
      go_enter Try.func74, Try.ntmps74
      go_wp2_with (first | (go_at_call 57; refine HB1.mono ?_; rintro o w1 ⟨rfl, hR1, hf1⟩; clear HB1) | (go_at_call 57; refine (HB2 _ hR1).mono ?_; rintro o w2 ⟨rfl, hR2, hf2⟩; clear HB2) | (go_at_call 57; refine (HB3 _ hR2).mono ?_; rintro o w3 ⟨rfl, hR3, hf3⟩; clear HB3) | (go_at_call 71; refine (must_no _ _).mono ?_; rintro e w' ⟨he, rfl⟩; unfold stopped at he; subst he))
      exact ⟨rfl, TabsPost.stops HX.out ((hf1.trans hf2).trans hf3)⟩
  rw [if_neg h29] at hX
  have q1 : decide ((hl : Int) ≤ 29) = true := by simp; omega
  have q2 : decide ((hd : Int) ≤ 29) = true := by simp; omega
  have HX : Hid (Im.bindE (Im.ownP r.s.data.toList (Im.order.take (hc + 4)) (List.replicate 19 0) p3) (Im.tabsK r.s.data.toList a hl hd) = X) := hX.symm
  clear hX
  have hl29 : hl ≤ 29 := by omega
  have hd29 : hd ≤ 29 := by omega
  have hc15 : hc ≤ 15 := by omega
  clear h29 l1 d1 c1
  have m1 : ∀ w : World, (Instr.makeSlice 32 (.int .i64 19) (.int .i64 19)).run Try.prog w = .ok (.slice (some ⟨w.heap.size, 0, none⟩) 19 19) (w.alloc (.cells (madeCells #[.int .i64 0] 19) 3)) := fun _ => by kernel_rfl
  have HR1 := fun w => Lib.hid (World.rowIs_made w (.int .i64 0) 19 3)
  generalize hA : madeCells #[Value.int .i64 0] 19 = A at *
  clear hA
  go_enter Try.func74, Try.ntmps74
  go_upto_region 2 with (first | (go_at_call 57; refine HB1.mono ?_; rintro o w1 ⟨rfl, hR1, hf1⟩; clear HB1) | (go_at_call 57; refine (HB2 _ hR1).mono ?_; rintro o w2 ⟨rfl, hR2, hf2⟩; clear HB2) | (go_at_call 57; refine (HB3 _ hR2).mono ?_; rintro o w3 ⟨rfl, hR3, hf3⟩; clear HB3) | (go_at_call 71; refine (must_yes _ _).mono ?_; rintro e w' ⟨rfl, rfl⟩))
  have hf4 := (hf1.trans hf2).trans hf3
  clear hf1 hf2 hf3 hR1 hR2 q1 q2
  have hA : A.size = 19 ∧ ∀ i, i < 19 → A[i]? = some (.int .i64 0) := by
    obtain ⟨c, q1, q2, q3⟩ := (HR1 w).out
    rw [heap_alloc_new] at q1
    cases q1
    exact ⟨q2, q3⟩
  go_cut [5, 6] (TabsCut R r w p3)
  case first =>
    have HSZ := Lib.hid (show ordV.size = 19 from rfl)
    have HZ := Lib.hid info19
    have HO1 : ordV.all (·.oneCell') = true := by simp [ordV, Value.oneCell']
    replace HO1 := Lib.hid HO1
    have HC := Lib.hid (fun w => order_in w)
    generalize hV : ordV = V at HSZ HO1 HC HZ
    replace hV := Lib.hid hV
    obtain ⟨hA1, hA2⟩ := hA
    replace hA1 := Lib.hid hA1
    replace hA2 := Lib.hid hA2
    have hsz := HSZ.out
    go_region_with (first | (go_at_call 84; refine (HC.out _).mono ?_; rintro e w4 ⟨rfl, hb4⟩) | (rw [run_store19 _ _ 105 V (by first | exact new_at _ _ (by simp) | exact lies_alloc _ (new_at _ _ (by simp)) | (refine lies_below ?_ hb4; exact new_at _ _ (by simp)) | (refine lies_below ?_ hb4; exact lies_alloc _ (new_at _ _ (by simp))) | (refine lies_alloc _ (lies_below ?_ hb4); exact new_at _ _ (by simp))) HSZ.out HO1.out]; go_simp))
    all_goals (go_wp2_with fail; go_meet)
    all_goals
      have hz := hb4.size
      simp at hz
      refine TabsCut.of hA1.out hA2.out hV.out hR3 hf4 ?_ ?_ ?_ ?_ ?_ ?_
    all_goals first | (with_reducible apply Nat.ne_of_lt; omega) | (with_reducible apply Nat.ne_of_gt; omega) | (with_reducible apply Nat.le_of_lt_succ; omega) | ((repeat (first | (with_reducible exact new_at _ _ (by simp)) | with_reducible refine lies_drew ?_ | with_reducible refine lies_below ?_ hb4 | with_reducible refine lies_alloc _ ?_)); done) | (apply Exists.intro; (repeat (first | (with_reducible exact new_at _ _ (by simp)) | with_reducible refine lies_drew ?_ | with_reducible refine lies_below ?_ hb4 | with_reducible refine lies_alloc _ ?_)); done) | ((repeat (first | (with_reducible exact Below.refl _ _) | with_reducible refine Below.drew ?_ | (with_reducible refine Below.alloc ?_ (by first | (simp; done) | (simp; omega) | omega) _) | (with_reducible refine Below.trans ?_ (hb4.mono (by first | (simp; done) | (simp; omega) | omega))))); done)
  case rest =>
    clear m1 HR1 hA hR3 hf4
    unfold TabsCut at hcut
    obtain ⟨g1, g2, rfl, rfl, hne, hg1, hg2, hr1, hg2c, hR3, hf4⟩ := hcut
    have hRlt := hR.lt
    have HORD := Lib.hid ord_at
    have hsl : ∀ w' : World, (Instr.sliceAt 105 (.pointer (some ⟨g2, 0, none⟩)) none (some (.int .i64 ((hc : Int) + 4))) none).run Try.prog w' = .ok (.slice (some ⟨g2, 0, none⟩) (hc + 4) 19) w' := by
      intro w'
      have e : Try.prog.arrayLen 105 = 19 := by kernel_rfl
      have e2 : Try.prog.elem 105 = 3 := by kernel_rfl
      rw [run_sliceAt_array_h w' 105 ⟨g2, 0, none⟩ (by rw [e, e2]; exact Try.underlying105) .i64 ((hc : Int) + 4) (by omega) (by rw [e]; omega), e, e2, sizeInt]
      have e3 : ((hc : Int) + 4).toNat = hc + 4 := by omega
      simp [Result.andThen, slicedAt, e3, Addr.add]
    have hl4 : IntKind.i64.wrap (((hc + 4 : Nat) : Int)) = ((hc + 4 : Nat) : Int) := IntWalk.i64_in _ (by omega)
    have HX0 : Hid (Im.bindE (Im.ownP r.s.data.toList ((Im.order.take (hc + 4)).drop 0) (List.replicate 19 0) p3) (Im.tabsK r.s.data.toList a hl hd) = X) := HX
    have hr0 : wc.rowIs g1 3 19 (ownF (List.replicate 19 0)) := hr1.congr fun i hi => by unfold ownF; rw [List.getD_eq_getElem?_getD, List.getElem?_replicate, if_pos hi]; rfl
    go_wp2_with fail
    clear hsl HX hl4 hr1
    go_loopw [29] (fun i wr => ∃ (k : Nat) (own : List Nat) (p : Nat), i = .int .i64 k ∧ k ≤ hc + 4 ∧ Hid (own.length = 19) ∧ Hm.Short own ∧ wr.rowIs g1 3 19 (ownF own) ∧ wr.heap[g2]? = some (.cells ordV 105 (0, 0)) ∧ RdAt wr R { r with bit := (p : Int) } ∧ p ≤ 8 * r.s.size ∧ Fr (· = R) w wr ∧ Hid (Im.bindE (Im.ownP r.s.data.toList ((Im.order.take (hc + 4)).drop k) own p) (Im.tabsK r.s.data.toList a hl hd) = X)) (fun i _ => hc + 4 - (intOf i).toNat)
    case atStart => exact ⟨0, List.replicate 19 0, p3, rfl, by omega, Lib.hid List.length_replicate, fun n hn => by rw [List.eq_of_mem_replicate hn]; omega, hr0, hg2c, hR3, c3, hf4, HX0⟩
    case round =>
      clear hr0 hg2c hR3 hf4 HX0
      obtain ⟨k, own, p, rfl, hk, hlen, hsh, hrow, hord, hRk, hp8, hfk, HX⟩ := hrel
      by_cases hlt : k < hc + 4
      · have q0 : decide ((k : Int) < (hc : Int) + 4) = true := by simp; omega
        have q0' : decide (k < hc + 4) = true := by simp; omega
        have hc2 : wr.cell? ⟨g2, k, none⟩ = some (.int .i64 ((Im.order.getD k 0 : Nat) : Int)) := by rw [cell_of_row _ _ _ _ _ _ hord]; exact HORD.out k (by omega)
        have hdrop : (Im.order.take (hc + 4)).drop k = Im.order.getD k 0 :: (Im.order.take (hc + 4)).drop (k + 1) := by
          have hl : k < (Im.order.take (hc + 4)).length := by rw [List.length_take]; show k < min (hc + 4) 19; omega
          rw [List.drop_eq_getElem_cons hl, List.getElem_take, List.getD_eq_getElem?_getD, List.getElem?_eq_getElem (by show k < 19; omega)]; rfl
        have ho := order_lt k (by omega)
        have HX1 := HX.out
        rw [hdrop] at HX1
        clear HX hdrop
        generalize Im.order.getD k 0 = o at *
        rw [Im.ownP] at HX1
        replace HX1 := Lib.hid HX1
        have HB := bits_moves R { r with bit := (p : Int) } p 3 wr hRk rfl (by omega) hp8 hs
        cases hk3 : Im.bitsP r.s.data.toList p 3 with
        | error e =>
          simp only [hk3] at HB
          have HX2 : Hid (.error e = X) := by have := HX1.out; rw [hk3] at this; exact this
          clear HX1 hk3
          go_wp2_with (go_at_call 57; refine HB.mono ?_; rintro o w4 ⟨he, hf5⟩; unfold stopped at he; subst he)
          exact ⟨rfl, TabsPost.stops HX2.out (hfk.trans hf5)⟩
        | ok v =>
          obtain ⟨x, p'⟩ := v
          simp only [hk3] at HB
          obtain ⟨k1, k2, k3⟩ := Im.bitsP_ok hk3
          rw [blen] at k3
          have HX2 : Hid (Im.bindE (Im.ownP r.s.data.toList ((Im.order.take (hc + 4)).drop (k + 1)) (own.set o x) p') (Im.tabsK r.s.data.toList a hl hd) = X) := by have := HX1.out; rw [hk3] at this; exact this
          replace k2 := Lib.hid k2
          clear HX1 hk3
          go_wp2_with (go_at_call 57; refine HB.mono ?_; rintro e w4 ⟨rfl, hR4, hf5⟩; clear HB; have hrow4 := rowFr hrow hf5 (by omega); have cc := hrow4.cell ho; have ff := hrow4.frozen o)
          have hg2b : w4.heap[g2]? = some (.cells ordV 105 (0, 0)) := by rw [hf5.block g2 (Array.getElem?_eq_some_iff.1 hord).1 (by omega)]; exact hord
          have hlenx := hlen.out
          have hset : (w4.setCell ⟨g1, o, none⟩ (.int .i64 (x : Int))).rowIs g1 3 19 (ownF (own.set o x)) := (hrow4.set o (.int .i64 (x : Int))).congr fun j hj => by
            unfold ownF
            rw [List.getD_eq_getElem?_getD, List.getD_eq_getElem?_getD, List.getElem?_set]
            by_cases e : j = o
            · subst e; rw [if_pos rfl, if_pos rfl, if_pos (by omega)]; rfl
            · rw [if_neg e, if_neg (fun q => e q.symm)]
          have hR5 : RdAt (w4.setCell ⟨g1, o, none⟩ (.int .i64 (x : Int))) R { r with bit := (p' : Int) } := hR4.setOther (by show R ≠ g1; omega) _
          have hg2d : (w4.setCell ⟨g1, o, none⟩ (.int .i64 (x : Int))).heap[g2]? = some (.cells ordV 105 (0, 0)) := by rw [Below.heap_setCell _ _ _ g2 (by show g2 ≠ g1; omega)]; exact hg2b
          have hf6 := (hfk.trans hf5).setCell (p := ⟨g1, o, none⟩) (Or.inr hg1) (.int .i64 (x : Int))
          have hsh2 : Hm.Short (own.set o x) := fun n hn => by
            rcases List.mem_or_eq_of_mem_set hn with q | q
            · exact hsh n q
            · omega
          replace hlenx := Lib.hid hlenx
          clear cc ff hg2b hrow4 hrow hord hR4 hfk hf5 hRk
          go_round
          case measure => simp [intOf]; omega
          case rel => exact ⟨k + 1, own.set o x, p', by go_num, by omega, Lib.hid (by rw [List.length_set]; exact hlenx.out), hsh2, hset, hg2d, hR5, k3, hf6, HX2⟩
      · have hkn : k = hc + 4 := by omega
        subst hkn
        have q0 : decide ((hc : Int) + 4 < (hc : Int) + 4) = false := by simp
        have q0' : decide (hc + 4 < hc + 4) = false := by simp
        have q0'' : decide (((hc + 4 : Nat) : Int) < (hc : Int) + 4) = false := by simp
        have HX1 : Hid (Im.tabsK r.s.data.toList a hl hd (own, p) = X) := by
          have := HX.out
          rw [List.drop_of_length_le (by rw [List.length_take]; omega)] at this
          exact this
        clear HX hord hk hlt
        have HT : SInts wr (some ⟨g1, 0, none⟩) (ints own) := row_sints (ns := own) (by have := hlen.out; rw [this]; exact hrow)
        unfold Im.tabsK at HX1
        by_cases herr : Hm.err own = 0
        rotate_left
        · have HX2 : Hid (.error 90 = X) := by have := HX1.out; rw [if_pos herr] at this; exact this
          have HC := table_no (some ⟨g1, 0, none⟩) 19 own wr HT hsh (by have := hlen.out; omega) herr
          rw [hlen.out] at HC
          replace HC := Lib.hid HC
          clear HX1 herr
          go_wp2_with (go_at_call 73; refine HC.out.mono ?_; rintro e w4 ⟨he, hb4⟩; unfold stopped at he; subst he)
          exact ⟨rfl, TabsPost.stops HX2.out (hfk.below hb4)⟩
        have HX2 := HX1.out
        rw [if_neg (fun q => q herr)] at HX2
        dsimp only at HX2
        have HC := table_yes (some ⟨g1, 0, none⟩) 19 own wr HT hsh (by have := hlen.out; omega) herr (Im.err_share herr)
        rw [hlen.out] at HC
        replace HC := Lib.hid HC
        have HL := fun T w4 (hT : TableAt w4 T own) hR4 => lengths_model R T own { r with bit := (p : Int) } p (hl + 257 + hd + 1) w4 hR4 hT hsh rfl hp8 hs (by omega)
        have ecast : ((hl + 257 + hd + 1 : Nat) : Int) = (hl : Int) + 257 + (hd : Int) + 1 := by omega
        simp only [ecast] at HL
        clear HX1 herr HT ecast q0 q0' q0''
        cases hlens : Im.lensP own r.s.data.toList (hl + 257 + hd + 1) (hl + 257 + hd + 2) p [] with
        | error e =>
          have HX3 : Hid (.error e = X) := by rw [hlens] at HX2; exact HX2
          simp only [Nat.add_assoc, Nat.reduceAdd] at HL
          simp only [Nat.add_assoc] at hlens
          rw [hlens] at HL
          clear HX2 hlens
          go_wp2_with (first | (go_at_call 73; refine HC.out.mono ?_; rintro e w4 ⟨T, hT, rfl, hta, hb4⟩; clear HC) | (go_at_call 85; refine (HL T w4 hta (hRk.below hb4)).mono ?_; rintro e w5 ⟨he, hf5⟩; unfold stopped at he; subst he))
          exact ⟨rfl, TabsPost.stops HX3.out ((hfk.below hb4).trans hf5)⟩
        | ok v =>
        obtain ⟨l, p5⟩ := v
        have HX3 := HX2
        rw [hlens] at HX3
        obtain ⟨e1, e2, e3⟩ := Im.lensP_ok (by have := hlen.out; omega) _ _ _ _ _ hlens (Nat.zero_le _) (fun n hn => by cases hn) (by rw [blen]; exact hp8)
        rw [blen] at e3
        simp only [Nat.add_assoc, Nat.reduceAdd] at HL
        simp only [Nat.add_assoc] at hlens
        rw [hlens] at HL
        simp only [Im.bindE] at HX3
        replace HX3 := Lib.hid HX3
        clear HX2 hlens
        have hz4 := hfk.size
        by_cases h0 : l.getD 256 0 = 0
        · have HX4 : Hid (.error 90 = X) := by have := HX3.out; rw [if_pos h0] at this; exact this
          have q1 : decide ((0 : Int) < ((l.getD 256 0 : Nat) : Int)) = false := decide_eq_false (by omega)
          have q1' : decide (0 < l.getD 256 0) = false := decide_eq_false (by omega)
          have i1 : (256 : Int) < (hl : Int) + 257 + (hd : Int) + 1 := by omega
          replace h0 := Lib.hid h0
          clear HX3
          go_wp2_with (first | (go_at_call 73; refine HC.out.mono ?_; rintro e w4 ⟨T, hT, rfl, hta, hb4⟩; clear HC) | (go_at_call 85; refine (HL T w4 hta (hRk.below hb4)).mono ?_; rintro e w5 ⟨a0, cap, rfl, hrow5, hR5, hf5⟩; clear HL; obtain ⟨g, rfl, hgB, hglt, hcap1, hcap2, hc5⟩ := hrow5.parts (by omega); have h256 := hc5 256 (by omega); replace hc5 := Lib.hid hc5; generalize l.getD 256 0 = v256 at *) | (go_at_call 71; refine (must_no _ _).mono ?_; rintro e w' ⟨he, rfl⟩; unfold stopped at he; subst he))
          exact ⟨rfl, TabsPost.stops HX4.out ((hfk.below hb4).trans hf5)⟩
        have HX4 := HX3.out
        rw [if_neg h0] at HX4
        replace HX4 := Lib.hid HX4
        have q1 : decide ((0 : Int) < ((l.getD 256 0 : Nat) : Int)) = true := decide_eq_true (by omega)
        have q1' : decide (0 < l.getD 256 0) = true := decide_eq_true (by omega)
        have i1 : (256 : Int) < (hl : Int) + 257 + (hd : Int) + 1 := by omega
        replace h0 := Lib.hid h0
        clear HX3
        go_wp2_with (first | (go_at_call 73; refine HC.out.mono ?_; rintro e w4 ⟨T, hT, rfl, hta, hb4⟩; clear HC) | (go_at_call 85; refine (HL T w4 hta (hRk.below hb4)).mono ?_; rintro e w5 ⟨a0, cap, rfl, hrow5, hR5, hf5⟩; clear HL; obtain ⟨g, rfl, hgB, hglt, hcap1, hcap2, hc5⟩ := hrow5.parts (by omega); have h256 := hc5 256 (by omega); replace hc5 := Lib.hid hc5; generalize l.getD 256 0 = v256 at *) | (go_at_call 71; refine (must_yes _ _).mono ?_; rintro e w' ⟨rfl, rfl⟩))
        have hgR : g ≠ R := by have := hb4.size; omega
        unfold maxLen at hcap2
        have hsz5 : ((hl : Int) + 257).toNat = hl + 257 := by omega
        have hs1 : ∀ w' : World, (Instr.slice 32 (.slice (some ⟨g, 0, none⟩) (hl + 257 + hd + 1) cap) none (some (.int .i64 ((hl : Int) + 257))) none).run Try.prog w' = .ok (.slice (some ⟨g, 0, none⟩) (hl + 257) cap) w' := by
          intro w'
          rw [run_slice_h w' 32 (some ⟨g, 0, none⟩) (hl + 257 + hd + 1) cap (by rw [intBytes]; exact Try.underlying32) .i64 ((hl : Int) + 257) (by omega) (by omega), intBytes, sizeInt, hsz5]
          simp [Result.andThen, sliced, Addr.add]
        have hs2 : ∀ w' : World, (Instr.slice 32 (.slice (some ⟨g, 0, none⟩) (hl + 257 + hd + 1) cap) (some (.int .i64 ((hl : Int) + 257))) none none).run Try.prog w' = .ok (.slice (some ⟨g, hl + 257, none⟩) (hd + 1) (cap - (hl + 257))) w' := by
          intro w'
          rw [run_slice_l w' 32 (some ⟨g, 0, none⟩) (hl + 257 + hd + 1) cap (by rw [intBytes]; exact Try.underlying32) .i64 ((hl : Int) + 257) (by omega) (by omega), intBytes, sizeInt, hsz5]
          have e9 : ¬ cap = hl + 257 := by omega
          have e8 : hl + 257 + hd + 1 - (hl + 257) = hd + 1 := by omega
          simp [Result.andThen, sliced, Addr.add, e9, e8]
        have hw1 : IntKind.i64.wrap ((hl : Int) + 257) = (hl : Int) + 257 := IntWalk.i64_in _ (by omega)
        clear hsz5
        have htl : (l.take (hl + 257)).length = hl + 257 := by rw [List.length_take]; omega
        have hdl : (l.drop (hl + 257)).length = hd + 1 := by rw [List.length_drop]; omega
        have hst : Hm.Short (l.take (hl + 257)) := fun n hn => e2 n (List.mem_of_mem_take hn)
        have hsd : Hm.Short (l.drop (hl + 257)) := fun n hn => e2 n (List.mem_of_mem_drop hn)
        have HS1 := fun w1 (hf : Fr (· = R) w5 w1) => (sints_take hc5.out (hl + 257)).fr hf hgR
        have HS2 := fun w1 (hf : Fr (· = R) w5 w1) => (sints_drop hc5.out (hl + 257)).fr hf hgR
        generalize l.take (hl + 257) = la at *
        generalize l.drop (hl + 257) = lb at *
        have hf5' : Fr (· = R) w w5 := (hfk.below hb4).trans hf5
        clear hc5 hrow5 h256 hrow hRk hfk hb4 hf5 hta q1 q1' i1 h0
        have HX5 := HX4.out
        by_cases ea : Hm.err la = 0
        · have HT1 : ∀ w1, Fr (· = R) w5 w1 → Hid (Calls Try.prog 73 #[.slice (some ⟨g, 0, none⟩) (hl + 257) cap] w1 (TableIn la w1)) := fun w1 hf => by
            have := table_yes (some ⟨g, 0, none⟩) cap la w1 (HS1 w1 hf) hst (by omega) ea (Im.err_share ea)
            rw [htl] at this; exact this
          by_cases eb : Hm.err lb = 0
          · have HT2 : ∀ w1, Fr (· = R) w5 w1 → Hid (Calls Try.prog 73 #[.slice (some ⟨g, hl + 257, none⟩) (hd + 1) (cap - (hl + 257))] w1 (TableIn lb w1)) := fun w1 hf => by
              have := table_yes (some ⟨g, hl + 257, none⟩) (cap - (hl + 257)) lb w1 (HS2 w1 hf) hsd (by omega) eb (Im.err_share eb)
              rw [hdl] at this; exact this
            rw [if_neg (by rw [ea, eb]; simp)] at HX5
            replace HX5 := Lib.hid HX5
            have HB5 := Lib.hid (Bun.start hR5 hf5')
            clear HX4 HS1 HS2 ea eb
            go_region_with (first | (go_at_call 73; refine (HT1 _ (Fr.refl _ w5).drew).out.mono ?_; rintro e w6 ⟨T1, hT1, rfl, hta1, hb6⟩; clear HT1) | (go_at_call 73; refine (HT2 _ ((Fr.refl _ w5).drew.below hb6)).out.mono ?_; rintro e w7 ⟨T2, hT2, rfl, hta2, hb7⟩; clear HT2; have hR7 := (hR5.drew.below hb6).below hb7; have k2 := hR7.frozen 2; have k5 := hR7.frozen 5; have k6 := hR7.frozen 6; have k2' := hR7.state; have k5' := hR7.lit; have k6' := hR7.dist))
            have HB7 := (HB5.out.drew.below hb6).below hb7
            have HB6 := HB5.out.drew.below hb6
            go_wp2
            go_end0
            have HB8 := ((HB7.set (i := 5) (v := .pointer (some ⟨T1, 0, none⟩))).set (i := 6) (v := .pointer (some ⟨T2, 0, none⟩))).set (i := 2) (v := .int .i64 2)
            have hf8 := (((Fr.refl (· = R) w7).setCell (p := ⟨R, 5, none⟩) (Or.inl rfl) (.pointer (some ⟨T1, 0, none⟩))).setCell (p := ⟨R, 6, none⟩) (Or.inl rfl) (.pointer (some ⟨T2, 0, none⟩))).setCell (p := ⟨R, 2, none⟩) (Or.inl rfl) (.int .i64 2)
            exact TabsPost.ends HX5.out (HB8.rd (by simp [ups, Rd.cells])) (Bun.table hta1 HB6 (((Fr.refl _ w6).below hb7).trans hf8)) (Bun.table hta2 HB7 hf8) HB8.fr
          · have HT2 : ∀ w1, Fr (· = R) w5 w1 → Hid (Calls Try.prog 73 #[.slice (some ⟨g, hl + 257, none⟩) (hd + 1) (cap - (hl + 257))] w1 (fun o w' => o = stopped 90 ∧ Below w1.heap.size w1 w')) := fun w1 hf => by
              have := table_no (some ⟨g, hl + 257, none⟩) (cap - (hl + 257)) lb w1 (HS2 w1 hf) hsd (by omega) eb
              rw [hdl] at this; exact this
            rw [if_pos (Or.inr eb)] at HX5
            replace HX5 := Lib.hid HX5
            clear HX4 HS1 HS2 ea eb
            go_region_dies
            all_goals (go_wp2_with (first | (go_at_call 73; refine (HT1 _ (Fr.refl _ w5).drew).out.mono ?_; rintro e w6 ⟨T1, hT1, rfl, hta1, hb6⟩; clear HT1) | (go_at_call 73; refine (HT2 _ ((Fr.refl _ w5).drew.below hb6)).out.mono ?_; rintro e w7 ⟨he, hb7⟩; unfold stopped at he; subst he)))
            refine wpAny_ready (rs := [11]) (by kernel_rfl) (by simp) ?_
            refine AllReady.cons rfl (fun K hK => ?_) ?_
            · go_simp
              go_wp2_with (go_at_call 73; refine (HT2 _ ((Fr.refl _ w5).drew.below hb6)).out.mono ?_; rintro e w7 ⟨he, hb7⟩; unfold stopped at he; subst he)
              exact ⟨rfl, TabsPost.stops HX5.out ((hf5'.drew.below hb6).below hb7)⟩
            · exact AllReady.nil
        · have HT1 : ∀ w1, Fr (· = R) w5 w1 → Hid (Calls Try.prog 73 #[.slice (some ⟨g, 0, none⟩) (hl + 257) cap] w1 (fun o w' => o = stopped 90 ∧ Below w1.heap.size w1 w')) := fun w1 hf => by
            have := table_no (some ⟨g, 0, none⟩) cap la w1 (HS1 w1 hf) hst (by omega) ea
            rw [htl] at this; exact this
          rw [if_pos (Or.inl ea)] at HX5
          replace HX5 := Lib.hid HX5
          clear HX4 HS1 HS2 ea
          go_region_dies
          all_goals (go_wp2_with (go_at_call 73; refine (HT1 _ (Fr.refl _ w5).drew).out.mono ?_; rintro e w6 ⟨he, hb6⟩; unfold stopped at he; subst he))
          exact ⟨rfl, TabsPost.stops HX5.out (hf5'.drew.below hb6)⟩
end Go.Proofs.Ytcjcmlnbchmnnaa
