/- (*inflate.Reader).step: the deferred closure's contracts, and its own. -/
import Derived.Test.YtcjcmlnbchmnnaaIBegins
import Derived.Test.YtcjcmlnbchmnnaaIElemM
import Derived.Test.YtcjcmlnbchmnnaaImTabs
import Derived.Defers
import Derived.Recover
import Derived.Laws.Pointers
import Derived.Laws.NewBlocks
namespace Go.Proofs.Ytcjcmlnbchmnnaa
open Go.RowKit

theorem info_rd : (Try.prog.info? 69).map (·.size) = some 12 := by kernel_rfl
theorem cells_size (r : Rd) : r.cells.size = 12 := rfl
/-- what step makes: the Reader's variable, the two results, what the Reader was -/
structure StepIn (w : World) (N R : Nat) (on : Bool) (e : Int) (r : Rd) : Prop where
  v : w.heap[N]? = some (.cells #[.pointer (some ⟨R, 0, none⟩)] 44 (0, 0))
  on : w.heap[N + 1]? = some (.cells #[.bool on] 4 (0, 0))
  e : w.heap[N + 2]? = some (.cells #[.int .i64 e] 28 (0, 0))
  was : w.heap[N + 3]? = some (.cells r.cells 69 (0, 0))
theorem lies_set {w : World} {g : Nat} {c : Array Value} {T : TypeId} (h : w.heap[g]? = some (.cells c T (0, 0))) (i : Nat) (v : Value) {c' : Array Value} (e : c.setIfInBounds i v = c') : (w.setCell ⟨g, i, none⟩ v).heap[g]? = some (.cells c' T (0, 0)) := by
  rw [← e]; exact heap_setCell_same w g i _ _ v h
theorem lies_setOther {w : World} {g : Nat} {o : Obj} (h : w.heap[g]? = some o) {p : Addr} (hp : g ≠ p.block) (v : Value) : (w.setCell p v).heap[g]? = some o := by rw [Below.heap_setCell w p v g hp]; exact h
theorem RdRow.setRow {w : World} {k : Nat} (h : RdRow w k) (g : Nat) {cs : Array Value} (hs : cs.size = 12) : RdRow (w.setRow g cs) k := by
  obtain ⟨c, h1, h2⟩ := h
  by_cases e : k = g
  · subst e; exact ⟨cs, setRow_heap w k _ cs _ _ h1, hs⟩
  · exact ⟨c, lies_setRow h1 e cs, h2⟩
theorem Fr.setRow {S : Nat → Prop} {a b : World} (h : Fr S a b) {g : Nat} (hp : S g ∨ a.heap.size ≤ g) (cs : Array Value) (hr : ∀ k, RdRow b k → RdRow (b.setRow g cs) k) : Fr S a (b.setRow g cs) :=
  ⟨h.os, h.tape, h.output, by rw [size_setRow]; exact h.size, fun k hk hn => by rw [← h.block k hk hn]; simp only [World.setRow, Array.getElem?_modify]; rw [if_neg (by rintro rfl; rcases hp with q | q; exact hn q; omega)], fun k q => hr k (h.rd k q)⟩
/-- what the closure has done -/
def Caught (N R : Nat) (e : Int) (r : Rd) (w w' : World) : Prop := StepIn w' N R false e r ∧ RdAt w' R r ∧ Fr (fun k => k = R ∨ k = N + 1 ∨ k = N + 2) w w'
set_option maxRecDepth 100000 in
set_option maxHeartbeats 2000000 in
theorem catch_stops (N R : Nat) (hN : R < N) (on : Bool) (e0 e : Int) (r : Rd) (hone : r.cells.all (·.oneCell') = true) (older : List PanicEntry) (w : World) (hI : StepIn w N R on e0 r) (hR : RdRow w R) :
    CallsD Try.prog 54 #[.pointer (some ⟨N + 3, 0, none⟩), .pointer (some ⟨N, 0, none⟩), .pointer (some ⟨N + 1, 0, none⟩), .pointer (some ⟨N + 2, 0, none⟩)] (.panicking ({ v := .iface 83 (.agg #[.int .i64 e]), recovered := false } :: older)) w fun o u' w' =>
      o = .returned (.tuple #[]) ∧ u' = .panicking ({ v := .iface 83 (.agg #[.int .i64 e]), recovered := true } :: older) ∧ Caught N R e r w w' := by
  have hta : ∀ w : World, (Instr.typeAssert (.iface 83 (.agg #[.int .i64 e])) 20 83 true).run Try.prog w = .ok (.tuple #[.agg #[.int .i64 e], .bool true]) w := fun _ => by kernel_rfl
  obtain ⟨C2, hR, hC2⟩ := hR
  have z1 := lt_of_block hI.v
  have z2 := lt_of_block hI.on
  have z3 := lt_of_block hI.e
  have z4 := lt_of_block hI.was
  have gv := lies_alloc (.cells #[.int .i64 e] 83) hI.v
  have gon := lies_alloc (.cells #[.int .i64 e] 83) hI.on
  have ge := lies_alloc (.cells #[.int .i64 e] 83) hI.e
  have gw := lies_alloc (.cells #[.int .i64 e] 83) hI.was
  have gR := lies_alloc (.cells #[.int .i64 e] 83) hR
  have gs := heap_alloc_new w (.cells #[.int .i64 e] 83)
  have hf := (Fr.refl (fun k => k = R ∨ k = N + 1 ∨ k = N + 2) w).alloc (.cells #[.int .i64 e] 83)
  have cv := cell_of_row _ _ 0 _ _ _ gv
  have HS := Lib.hid (cells_size r)
  have HS2 := Lib.hid hC2
  have HZ := Lib.hid info_rd
  have HO := Lib.hid hone
  clear hI hR
  refine callsD_of_wpS Try.func54 rfl fun c₀ cs hu => ?_
  apply wpS_seq
  apply wpS_region
  simp [wpOpsS, go_sem, recoverD, hu, hta, Try.ntmps54, Exit.thenS]
  have h13 : Array.replicate 13 undef = #[undef, undef, undef, undef, undef, undef, undef, undef, undef, undef, undef, undef, undef] := rfl
  simp only [h13, List.setIfInBounds_toArray, List.set_cons_succ, List.set_cons_zero, List.append_toArray, List.cons_append, List.nil_append]
  refine wpS_of_wp ?_
  have hsz1 : w.heap.size < (w.alloc (.cells #[.int .i64 e] 83)).heap.size := by rw [size_alloc]; omega
  generalize hw1 : w.alloc (.cells #[.int .i64 e] 83) = w1 at *
  generalize hN0 : w.heap.size = S at *
  clear hw1 hta h13
  go_wp2_with (first | ((with_reducible show wpList _ _ _ (⟨some 13, _, _, _, _, _⟩ :: _) _ _); refine wpList_load_row rfl 69 _ rfl (N + 3) rfl 69 r.cells (0, 0) _ gw Try.underlying69 rfl HZ.out ?_) | ((with_reducible show wpList _ _ _ (⟨none, .store 69 _ _, _, _, _, _⟩ :: _) _ _); refine wpList_store_row rfl 69 _ _ rfl R r.cells rfl rfl 69 C2 gR HZ.out (by rw [HS.out, HS2.out]) HO.out ?_))
  have g2R := setRow_heap w1 R _ r.cells _ _ gR
  have g2v := lies_setRow gv (show N ≠ R by omega) r.cells
  have g2on := lies_setRow gon (show N + 1 ≠ R by omega) r.cells
  have g2e := lies_setRow ge (show N + 2 ≠ R by omega) r.cells
  have g2w := lies_setRow gw (show N + 3 ≠ R by omega) r.cells
  have g2s := lies_setRow gs (show S ≠ R by omega) r.cells
  have hf2 := hf.setRow (g := R) (Or.inl (Or.inl rfl)) r.cells fun _ q => q.setRow R HS.out
  generalize hw2 : w1.setRow R r.cells = w2 at *
  clear gv gon ge gw gs gR hf cv hw2
  have k0 := cell_of_row _ _ 0 _ _ _ g2s
  have k1 := cell_of_row _ _ 0 _ _ _ g2on
  have k2 := cell_of_row _ _ 0 _ _ _ g2e
  have f1 := frozen_of_row _ _ 0 _ _ g2on
  have f2 := frozen_of_row _ _ 0 _ _ g2e
  have g3v := lies_setOther (lies_setOther g2v (p := ⟨N + 1, 0, none⟩) (by show N ≠ N + 1; omega) (.bool false)) (p := ⟨N + 2, 0, none⟩) (by show N ≠ N + 2; omega) (.int .i64 e)
  have g3on := lies_setOther (lies_set g2on 0 (.bool false) (c' := #[.bool false]) rfl) (p := ⟨N + 2, 0, none⟩) (by show N + 1 ≠ N + 2; omega) (.int .i64 e)
  have g3e := lies_set (lies_setOther g2e (p := ⟨N + 1, 0, none⟩) (by show N + 2 ≠ N + 1; omega) (.bool false)) 0 (.int .i64 e) (c' := #[.int .i64 e]) rfl
  have g3w := lies_setOther (lies_setOther g2w (p := ⟨N + 1, 0, none⟩) (by show N + 3 ≠ N + 1; omega) (.bool false)) (p := ⟨N + 2, 0, none⟩) (by show N + 3 ≠ N + 2; omega) (.int .i64 e)
  have g3R := lies_setOther (lies_setOther g2R (p := ⟨N + 1, 0, none⟩) (by show R ≠ N + 1; omega) (.bool false)) (p := ⟨N + 2, 0, none⟩) (by show R ≠ N + 2; omega) (.int .i64 e)
  have hf3 := ((hf2.setCell (p := ⟨N + 1, 0, none⟩) (Or.inl (Or.inr (Or.inl rfl))) (.bool false)).setCell (p := ⟨N + 2, 0, none⟩) (Or.inl (Or.inr (Or.inr rfl))) (.int .i64 e)).drew
  have HC : Hid (Caught N R e r w ((w2.setCell ⟨N + 1, 0, none⟩ (.bool false)).setCell ⟨N + 2, 0, none⟩ (.int .i64 e)).drew) := ⟨⟨g3v, g3on, g3e, g3w⟩, g3R, hf3⟩
  clear g3v g3on g3e g3w g3R hf3 g2R g2v g2on g2e g2w g2s hf2
  go_region
  all_goals go_wp2_with fail
  all_goals simp [bodyPostS, results, Try.results54]
  all_goals exact HC.out
set_option maxRecDepth 100000 in
set_option maxHeartbeats 2000000 in
theorem catch_idle (p0 p1 p2 p3 : Value) (w : World) :
    CallsD Try.prog 54 #[p0, p1, p2, p3] .returning w fun o u' w' =>
      o = .returned (.tuple #[]) ∧ u' = .returning ∧ w' = w.alloc (.cells #[.int .i64 0] 83) := by
  have hta : ∀ w : World, (Instr.typeAssert .nilIface 20 83 true).run Try.prog w = .ok (.tuple #[.agg #[.int .i64 0], .bool false]) w := fun _ => by kernel_rfl
  refine callsD_of_wpS Try.func54 rfl fun c₀ cs hu => ?_
  apply wpS_seq
  apply wpS_region
  simp [wpOpsS, go_sem, recoverD, hu, hta, Try.ntmps54, Exit.thenS]
  have h13 : Array.replicate 13 undef = #[undef, undef, undef, undef, undef, undef, undef, undef, undef, undef, undef, undef, undef] := rfl
  simp only [h13, List.setIfInBounds_toArray, List.set_cons_succ, List.set_cons_zero, List.append_toArray, List.cons_append, List.nil_append]
  refine wpS_of_wp ?_
  go_wp2_with fail
  cases c₀
  simp_all [bodyPostS, results, Try.results54]
def StepPost (R B : Nat) (r : Rd) (tb : List UInt8) (most : Nat) (a : Im.St) (w : World) (x : Except Int Im.St) (o : Ending) (w' : World) : Prop :=
  match x with
  | .ok a' => o = .returned (.tuple #[.bool true, .int .i64 0]) ∧ (∃ r', StOne w' R B r' tb most a' ∧ (r'.s, r'.back) = (r.s, r.back)) ∧ Grew R B w w'
  | .error e => o = .returned (.tuple #[.bool false, .int .i64 e]) ∧ StOne w' R B r tb most a ∧ Fr (· = R) w w'
theorem StOne.below {w w' : World} {R B : Nat} {r : Rd} {tb : List UInt8} {most : Nat} {a : Im.St} (h : StOne w R B r tb most a) (hb : Below w.heap.size w w') : StOne w' R B r tb most a := by
  obtain ⟨o1, o2, o3, o4⟩ := h.toStAt.outs (R := R) (Fr.of_below hb)
  exact { at_ := h.at_.below hb, bit := h.bit, state := h.state, last := h.last, left := h.left, told := h.told, most_ := h.most_, e := h.e, out := o1, back := o2, tabs := o3, base := o4, pos_le := h.pos_le, size_le := h.size_le, out_le := h.out_le, most_le := h.most_le, left_le := h.left_le, state_le := h.state_le, one := h.one }
/-- rows of bytes, Readers, tables lie as they did -/
structure Keeps (w w' : World) : Prop where
  size : w.heap.size ≤ w'.heap.size
  bytes : ∀ g : Nat, ByteRow w g → w'.heap[g]? = w.heap[g]?
  rd : ∀ (g : Nat) (c : Array Value), w.heap[g]? = some (.cells c 69 (0, 0)) → w'.heap[g]? = some (.cells c 69 (0, 0))
  tab : ∀ (g : Nat) (c : Array Value), w.heap[g]? = some (.cells c 111 (0, 0)) → w'.heap[g]? = some (.cells c 111 (0, 0))
  map : ∀ (g : Nat) es k, w.heap[g]? = some (Obj.map es k) → w'.heap[g]? = some (Obj.map es k)
theorem Keeps.refl (w : World) : Keeps w w := ⟨Nat.le_refl _, fun _ _ => rfl, fun _ _ h => h, fun _ _ h => h, fun _ _ _ h => h⟩
theorem Keeps.trans {a b c : World} (h : Keeps a b) (k : Keeps b c) : Keeps a c :=
  ⟨Nat.le_trans h.size k.size, fun g q => (k.bytes g (by obtain ⟨cur, q1⟩ := q; exact ⟨cur, (h.bytes g ⟨cur, q1⟩).trans q1⟩)).trans (h.bytes g q), fun g x q => k.rd g x (h.rd g x q), fun g x q => k.tab g x (h.tab g x q), fun g x y q => k.map g x y (h.map g x y q)⟩
theorem Keeps.alloc (w : World) (o : Obj) : Keeps w (w.alloc o) :=
  ⟨by rw [size_alloc]; omega, fun g ⟨cur, q⟩ => (lies_alloc o q).trans q.symm, fun _ _ q => lies_alloc o q, fun _ _ q => lies_alloc o q, fun _ _ _ q => lies_alloc o q⟩
theorem Keeps.setCell {w : World} {b : Nat} {c : Array Value} {T : TypeId} (h : w.heap[b]? = some (.cells c T (0, 0))) (hT : T ≠ 5 ∧ T ≠ 69 ∧ T ≠ 111) (i : Nat) (v : Value) : Keeps w (w.setCell ⟨b, i, none⟩ v) := by
  have ne : ∀ (g : Nat) (o : Obj), w.heap[g]? = some o → (∀ c', o ≠ .cells c' T (0, 0)) → (w.setCell ⟨b, i, none⟩ v).heap[g]? = some o := fun g o q hn => lies_setOther q (p := ⟨b, i, none⟩) (by rintro rfl; rw [h] at q; cases q; exact hn _ rfl) v
  refine ⟨by simp, fun g ⟨cur, q⟩ => (ne g _ q fun c' e => ?_).trans q.symm, fun g x q => ne g _ q fun c' e => ?_, fun g x q => ne g _ q fun c' e => ?_, fun g es k q => ne g _ q fun c' e => by cases e⟩
  · injection e with _ e; exact hT.1 e.symm
  · injection e with _ e; exact hT.2.1 e.symm
  · injection e with _ e; exact hT.2.2 e.symm
theorem TabAt.keeps {w w' : World} {v : Value} {ns : List Nat} (h : TabAt w v ns) (hk : Keeps w w') : TabAt w' v ns := by
  obtain ⟨T, h1, ⟨M, n, hcT, D, ⟨es, clock, q1, q2⟩, q3⟩, h3⟩ := h
  exact ⟨T, h1, ⟨M, n, hk.tab _ _ hcT, D, ⟨es, clock, hk.map _ _ _ q1, q2⟩, q3⟩, h3⟩
theorem StOne.keeps {w w' : World} {R B : Nat} {r : Rd} {tb : List UInt8} {most : Nat} {a : Im.St} (h : StOne w R B r tb most a) (hk : Keeps w w') : StOne w' R B r tb most a := by
  obtain ⟨o, h1, h2⟩ := h.out
  exact { at_ := hk.rd _ _ h.at_, bit := h.bit, state := h.state, last := h.last, left := h.left, told := h.told, most_ := h.most_, e := h.e, out := ⟨o, h1, h2.kept hk.bytes⟩, back := ⟨h.back.1.kept hk.bytes, h.back.2⟩, tabs := fun e => ⟨(h.tabs e).1.keeps hk, (h.tabs e).2.keeps hk⟩, base := Nat.le_trans h.base hk.size, pos_le := h.pos_le, size_le := h.size_le, out_le := h.out_le, most_le := h.most_le, left_le := h.left_le, state_le := h.state_le, one := h.one }
/-- only the Reader's row has changed, and it has come back -/
theorem StOne.back_again {w w' : World} {R B : Nat} {r : Rd} {tb : List UInt8} {most : Nat} {a : Im.St} (h : StOne w R B r tb most a) (hf : Fr (· = R) w w') (hR : RdAt w' R r) : StOne w' R B r tb most a :=
  h.to hf hR h.bit h.state h.last h.left rfl rfl rfl rfl rfl rfl rfl (fun e => by
    obtain ⟨t1, t2⟩ := h.tabs e
    exact ⟨t1.grew h.at_ (Grew.of_fr (B := B) hf), t2.grew h.at_ (Grew.of_fr (B := B) hf)⟩) h.pos_le h.left_le h.state_le h.one
theorem StepIn.grew {W w2 : World} {N R B : Nat} {on : Bool} {e : Int} {r : Rd} (h : StepIn W N R on e r) (hg : Grew R B W w2) (hN : R < N) : StepIn w2 N R on e r := by
  have key : ∀ (k : Nat) (c : Array Value) (T : TypeId), W.heap[k]? = some (.cells c T (0, 0)) → k ≠ R → T ≠ 5 → w2.heap[k]? = some (.cells c T (0, 0)) := fun k c T q hk hT => by
    rw [hg.block k (lt_of_block q)]
    · exact q
    · rintro (rfl | ⟨_, cur, q2⟩)
      · exact hk rfl
      · rw [q] at q2; injection q2 with q2; injection q2 with _ q2; exact hT q2
  exact ⟨key _ _ _ h.v (by omega) (by decide), key _ _ _ h.on (by omega) (by decide), key _ _ _ h.e (by omega) (by decide), key _ _ _ h.was (by omega) (by decide)⟩
theorem StepPost.done {R B N : Nat} {r r' : Rd} {tb : List UInt8} {most : Nat} {a a' : Im.St} {w W w2 : World} {X : Except Int Im.St} (hX : .ok a' = X) (hb : Below w.heap.size w W) (hN : w.heap.size ≤ N) (hS : StOne w2 R B r' tb most a') (hs : (r'.s, r'.back) = (r.s, r.back)) (hg : Grew R B W w2) (hI : StepIn w2 N R false 0 r) :
    StepPost R B r tb most a w X (.returned (.tuple #[.bool true, .int .i64 0])) (((w2.setCell ⟨N + 1, 0, none⟩ (.bool true)).setCell ⟨N + 2, 0, none⟩ (.int .i64 0)).alloc (.cells #[.int .i64 0] 83)) := by
  subst hX
  have k1 := Keeps.setCell hI.on ⟨by decide, by decide, by decide⟩ 0 (.bool true)
  have he := lies_setOther hI.e (p := ⟨N + 1, 0, none⟩) (by show N + 2 ≠ N + 1; omega) (.bool true)
  have k2 := Keeps.setCell he ⟨by decide, by decide, by decide⟩ 0 (.int .i64 0)
  have k3 := Keeps.alloc ((w2.setCell ⟨N + 1, 0, none⟩ (.bool true)).setCell ⟨N + 2, 0, none⟩ (.int .i64 0)) (.cells #[.int .i64 0] 83)
  have g2 : Grew R B w w2 := (Grew.of_fr (Fr.of_below hb)).trans hg
  exact ⟨rfl, ⟨r', ((hS.keeps k1).keeps k2).keeps k3, hs⟩, ((g2.setCell (p := ⟨N + 1, 0, none⟩) (Or.inr (by show _ ≤ N + 1; omega)) _).setCell (p := ⟨N + 2, 0, none⟩) (Or.inr (by show _ ≤ N + 2; omega)) _).alloc _⟩
theorem StepPost.not {R B N : Nat} {r : Rd} {tb : List UInt8} {most : Nat} {a : Im.St} {w W w2 w3 : World} {X : Except Int Im.St} {e : Int} (hX : .error e = X) (h : StOne w R B r tb most a) (hb : Below w.heap.size w W) (hN : w.heap.size ≤ N) (hf : Fr (· = R) W w2) (hc : Caught N R e r w2 w3) :
    StepPost R B r tb most a w X (.returned (.tuple #[.bool false, .int .i64 e])) w3 := by
  subst hX
  obtain ⟨_, h2, h3⟩ := hc
  have f1 : Fr (· = R) w w3 := ((Fr.of_below hb).trans hf).then h3 fun i hi q => by rcases q with q | q | q <;> first | exact q | omega
  exact ⟨rfl, h.back_again f1 h2, f1⟩
theorem StOne.cells_one {w : World} {R B : Nat} {r : Rd} {tb : List UInt8} {most : Nat} {a : Im.St} (h : StOne w R B r tb most a) : r.cells.all (·.oneCell') = true := by
  obtain ⟨o, _, ho⟩ := h.out
  obtain ⟨a0, c0, e0, _⟩ := ho.slice
  obtain ⟨a1, c1, e1, _⟩ := h.back.1.slice
  obtain ⟨l1, l2⟩ := h.one
  unfold Rd.cells
  rw [e0, e1]
  simp only [List.all_toArray, List.all_cons, List.all_nil, l1, l2, Bool.and_true]
  rfl
set_option maxRecDepth 100000 in
set_option maxHeartbeats 4000000 in
theorem step_model (R B : Nat) (r : Rd) (tb : List UInt8) (most : Nat) (a : Im.St) (w : World) (h : StOne w R B r tb most a) (h3 : a.state ≠ 3) :
    Calls Try.prog 43 #[.pointer (some ⟨R, 0, none⟩)] w (StepPost R B r tb most a w (Im.stepP r.s.data.toList most a)) := by
  generalize hX0 : Im.stepP r.s.data.toList most a = X
  have HX := Lib.hid hX0
  clear hX0
  have hmf : ∀ (fn : Fn) (first cap : Array Value) (w : World), (Instr.makeFunc fn first cap).run Try.prog w = .ok (.func fn first cap) w := fun _ _ _ _ => rfl
  have hRlt := h.at_.lt
  have HS := Lib.hid (cells_size r)
  have HZ := Lib.hid info_rd
  have HO := Lib.hid h.cells_one
  go_enter_defers Try.func43, Try.ntmps43
  go_upto_region 1 with fail
  have gv := lies_alloc (.cells #[.int .i64 0] 28) (lies_alloc (.cells #[.bool false] 4) (new_at w (.cells #[.pointer (some ⟨R, 0, none⟩)] 44) rfl))
  have gon := lies_alloc (.cells #[.int .i64 0] 28) (new_at (w.alloc (.cells #[.pointer (some ⟨R, 0, none⟩)] 44)) (.cells #[.bool false] 4) (g := w.heap.size + 1) (by simp))
  have ge := new_at ((w.alloc (.cells #[.pointer (some ⟨R, 0, none⟩)] 44)).alloc (.cells #[.bool false] 4)) (.cells #[.int .i64 0] 28) (g := w.heap.size + 2) (by simp)
  have hbl := (((Below.refl w.heap.size w).alloc (Nat.le_refl _) (.cells #[.pointer (some ⟨R, 0, none⟩)] 44)).alloc (by simp) (.cells #[.bool false] 4)).alloc (by simp; omega) (.cells #[.int .i64 0] 28)
  have hsz : (((w.alloc (.cells #[.pointer (some ⟨R, 0, none⟩)] 44)).alloc (.cells #[.bool false] 4)).alloc (.cells #[.int .i64 0] 28)).heap.size = w.heap.size + 3 := by simp
  generalize hw3 : ((w.alloc (.cells #[.pointer (some ⟨R, 0, none⟩)] 44)).alloc (.cells #[.bool false] 4)).alloc (.cells #[.int .i64 0] 28) = w3 at *
  clear hw3
  have gR := h.at_.below hbl
  generalize hN : w.heap.size = N at *
  have cv := cell_of_row _ _ 0 _ _ _ gv
  replace hN := Lib.hid hN
  replace hsz := Lib.hid hsz
  go_upto_region 2 with (first | ((with_reducible show wpList _ _ _ (⟨some 8, _, _, _, _, _⟩ :: _) _ _); refine wpList_load_row rfl 69 _ rfl R rfl 69 r.cells (0, 0) _ gR Try.underlying69 rfl HZ.out ?_) | ((with_reducible show wpList _ _ _ (⟨none, .store 69 _ _, _, _, _, _⟩ :: _) _ _); refine wpList_store_row rfl 69 _ _ rfl w3.heap.size r.cells rfl rfl 69 _ (heap_alloc_new _ _) HZ.out (by rw [HS.out]; rfl) HO.out ?_))
  have hs3 := hsz.out
  rw [hs3, show N + 1 + 1 = N + 2 from rfl]
  have hw0 := lies_alloc (.cells #[.string ⟨#[]⟩, .int .i64 0, .int .i64 0, .bool false, .int .i64 0, .pointer none, .pointer none, .slice none 0 0, .slice none 0 0, .int .i64 0, .int .i64 0, .int .i64 0] 69) gv
  have hw1 := lies_alloc (.cells #[.string ⟨#[]⟩, .int .i64 0, .int .i64 0, .bool false, .int .i64 0, .pointer none, .pointer none, .slice none 0 0, .slice none 0 0, .int .i64 0, .int .i64 0, .int .i64 0] 69) gon
  have hw2 := lies_alloc (.cells #[.string ⟨#[]⟩, .int .i64 0, .int .i64 0, .bool false, .int .i64 0, .pointer none, .pointer none, .slice none 0 0, .slice none 0 0, .int .i64 0, .int .i64 0, .int .i64 0] 69) ge
  have hw4 := setRow_heap (w3.alloc (.cells #[.string ⟨#[]⟩, .int .i64 0, .int .i64 0, .bool false, .int .i64 0, .pointer none, .pointer none, .slice none 0 0, .slice none 0 0, .int .i64 0, .int .i64 0, .int .i64 0] 69)) (N + 3) _ r.cells _ _ (new_at w3 _ hs3.symm)
  have hbl4 := belSetRow (hbl.alloc (by omega) (.cells #[.string ⟨#[]⟩, .int .i64 0, .int .i64 0, .bool false, .int .i64 0, .pointer none, .pointer none, .slice none 0 0, .slice none 0 0, .int .i64 0, .int .i64 0, .int .i64 0] 69)) (g := N + 3) (by omega) r.cells
  have hI : StepIn ((w3.alloc (.cells #[.string ⟨#[]⟩, .int .i64 0, .int .i64 0, .bool false, .int .i64 0, .pointer none, .pointer none, .slice none 0 0, .slice none 0 0, .int .i64 0, .int .i64 0, .int .i64 0] 69)).setRow (N + 3) r.cells) N R false 0 r := ⟨lies_setRow hw0 (by omega) _, lies_setRow hw1 (by omega) _, lies_setRow hw2 (by omega) _, hw4⟩
  clear hw0 hw1 hw2 hw4
  generalize hW : (w3.alloc (.cells #[.string ⟨#[]⟩, .int .i64 0, .int .i64 0, .bool false, .int .i64 0, .pointer none, .pointer none, .slice none 0 0, .slice none 0 0, .int .i64 0, .int .i64 0, .int .i64 0] 69)).setRow (N + 3) r.cells = W at *
  clear hW hs3 hsz hbl gR gv gon ge cv w3
  have hbl : Below w.heap.size w W := by rw [hN.out]; exact hbl4
  have hW := h.below hbl
  have hNle : w.heap.size ≤ N := by rw [hN.out]; exact Nat.le_refl _
  have k0 := cell_of_row _ _ 0 _ _ _ hI.v
  clear hbl4
  by_cases s0 : a.state = 0
  · have kst : W.cell? ⟨R, 2, none⟩ = some (.int .i64 0) := by have := hW.at_.state; rw [hW.state, s0] at this; exact this
    have HB := begins_model R r a W hW.at_ hW.bit hW.left hW.pos_le hW.size_le
    cases hb : Im.begP r.s.data.toList a with
    | error e =>
      rw [hb] at HB
      have HX1 : Hid (.error e = X) := by have := HX.out; unfold Im.stepP at this; rw [if_pos s0, hb] at this; exact this
      clear HX hb s0
      go_wp2_with (go_at_call 55; refine HB.mono ?_; rintro o w2 ⟨he, hf2⟩; unfold stopped at he; subst he)
      have hI2 := hI.grew (Grew.of_fr (B := B) hf2) hRlt
      have hr2 := hf2.rd R ⟨_, hW.at_, rfl⟩
      refine leaves_cons (f := 54) (args := #[.pointer (some ⟨N + 3, 0, none⟩), .pointer (some ⟨N, 0, none⟩), .pointer (some ⟨N + 1, 0, none⟩), .pointer (some ⟨N + 2, 0, none⟩)]) (by simp) (by simp [go_sem]) ?_
      refine (catch_stops N R hRlt false 0 e r HO.out [] w2 hI2 hr2).mono ?_
      rintro o u' w3 ⟨rfl, rfl, hc⟩
      have c1 := cell_of_row _ _ 0 _ _ _ hc.1.on
      have c2 := cell_of_row _ _ 0 _ _ _ hc.1.e
      simp [Leaves, settle, results, Try.results43, go_sem, c1, c2]
      exact StepPost.not HX1.out h hbl hNle hf2 hc
    | ok a' =>
      rw [hb] at HB
      have HX1 : Hid (.ok a' = X) := by have := HX.out; unfold Im.stepP at this; rw [if_pos s0, hb] at this; exact this
      have hsh := Lib.hid (Im.begP_short hb)
      have hwt := Im.begP_went (most := most) hb s0
      clear HX hb s0
      go_wp2_with (go_at_call 55; refine HB.mono ?_; rintro o w2 ⟨rfl, ⟨lit, dist, hR2, ht2, hn2⟩, hf2⟩; clear HB; have hg2 := Grew.of_fr (B := B) hf2; have hI2 := hI.grew hg2 hRlt; have k1 := cell_of_row _ _ 0 _ _ _ hI2.on; have k2 := cell_of_row _ _ 0 _ _ _ hI2.e; have f1 := frozen_of_row _ _ 0 _ _ hI2.on; have f2 := frozen_of_row _ _ 0 _ _ hI2.e)
      have hS2 : StOne w2 R B { r with bit := (a'.pos : Int), state := (a'.state : Int), last := a'.last, left := (a'.left : Int), lit := lit, dist := dist } tb most a' := hW.to hf2 hR2 rfl rfl rfl rfl rfl rfl rfl rfl rfl rfl hsh.out.1 (fun e => by
        obtain ⟨T, D, rfl, rfl, t1, t2⟩ := ht2 e
        obtain ⟨s1, s2, s3, s4⟩ := hsh.out.2 e
        exact ⟨⟨T, rfl, t1, s1, s2⟩, ⟨D, rfl, t2, s3, s4⟩⟩) (by have := hwt.far; rwa [blen] at this) (hwt.left hW.left_le) hwt.state (by
        by_cases e : a'.state = 2
        · obtain ⟨T, D, rfl, rfl, t1, t2⟩ := ht2 e; exact ⟨rfl, rfl⟩
        · obtain ⟨rfl, rfl⟩ := hn2 e; exact hW.one)
      have hs2 : (({ r with bit := (a'.pos : Int), state := (a'.state : Int), last := a'.last, left := (a'.left : Int), lit := lit, dist := dist } : Rd).s, ({ r with bit := (a'.pos : Int), state := (a'.state : Int), last := a'.last, left := (a'.left : Int), lit := lit, dist := dist } : Rd).back) = (r.s, r.back) := rfl
      refine leaves_cons (f := 54) (args := #[.pointer (some ⟨N + 3, 0, none⟩), .pointer (some ⟨N, 0, none⟩), .pointer (some ⟨N + 1, 0, none⟩), .pointer (some ⟨N + 2, 0, none⟩)]) (by simp) (by simp [go_sem]) ?_
      refine (catch_idle _ _ _ _ _).mono ?_
      rintro o u' w3 ⟨rfl, rfl, rfl⟩
      have l1 := cell_of_row _ _ 0 _ _ _ (lies_alloc (.cells #[.int .i64 0] 83) (lies_setOther (lies_set hI2.on 0 (.bool true) (c' := #[.bool true]) rfl) (p := ⟨N + 2, 0, none⟩) (by show N + 1 ≠ N + 2; omega) (.int .i64 0)))
      have l2 := cell_of_row _ _ 0 _ _ _ (lies_alloc (.cells #[.int .i64 0] 83) (lies_set (lies_setOther hI2.e (p := ⟨N + 1, 0, none⟩) (by show N + 2 ≠ N + 1; omega) (.bool true)) 0 (.int .i64 0) (c' := #[.int .i64 0]) rfl))
      simp [Leaves, settle, results, Try.results43, go_sem, l1, l2]
      exact StepPost.done HX1.out hbl hNle hS2 hs2 hg2 hI2
  by_cases s1 : a.state = 1
  · have kst : W.cell? ⟨R, 2, none⟩ = some (.int .i64 1) := by have := hW.at_.state; rw [hW.state, s1] at this; exact this
    have klf : W.cell? ⟨R, 4, none⟩ = some (.int .i64 (a.left : Int)) := by have := hW.at_.left; rw [hW.left] at this; exact this
    by_cases l0 : a.left = 0
    · have ql : ((a.left : Int) == 0) = true := by rw [l0]; rfl
      have HE := ends_model R B r tb most a W hW
      have HX1 : Hid (.ok (Im.endsP a) = X) := by have := HX.out; unfold Im.stepP at this; rw [if_neg s0, if_pos s1, if_pos l0] at this; exact this
      clear HX s0 s1 l0
      go_wp2_with (go_at_call 56; refine HE.mono ?_; rintro o w2 ⟨rfl, ⟨r', hS2, hs2⟩, hg2⟩; clear HE; have hI2 := hI.grew hg2 hRlt; have k1 := cell_of_row _ _ 0 _ _ _ hI2.on; have k2 := cell_of_row _ _ 0 _ _ _ hI2.e; have f1 := frozen_of_row _ _ 0 _ _ hI2.on; have f2 := frozen_of_row _ _ 0 _ _ hI2.e)
      refine leaves_cons (f := 54) (args := #[.pointer (some ⟨N + 3, 0, none⟩), .pointer (some ⟨N, 0, none⟩), .pointer (some ⟨N + 1, 0, none⟩), .pointer (some ⟨N + 2, 0, none⟩)]) (by simp) (by simp [go_sem]) ?_
      refine (catch_idle _ _ _ _ _).mono ?_
      rintro o u' w3 ⟨rfl, rfl, rfl⟩
      have l1 := cell_of_row _ _ 0 _ _ _ (lies_alloc (.cells #[.int .i64 0] 83) (lies_setOther (lies_set hI2.on 0 (.bool true) (c' := #[.bool true]) rfl) (p := ⟨N + 2, 0, none⟩) (by show N + 1 ≠ N + 2; omega) (.int .i64 0)))
      have l2 := cell_of_row _ _ 0 _ _ _ (lies_alloc (.cells #[.int .i64 0] 83) (lies_set (lies_setOther hI2.e (p := ⟨N + 1, 0, none⟩) (by show N + 2 ≠ N + 1; omega) (.bool true)) 0 (.int .i64 0) (c' := #[.int .i64 0]) rfl))
      simp [Leaves, settle, results, Try.results43, go_sem, l1, l2]
      exact StepPost.done HX1.out hbl hNle hS2 hs2 hg2 hI2
    have ql : ((a.left : Int) == 0) = false := by simp; omega
    have HB := bits_moves R r a.pos 8 W hW.at_ hW.bit (by omega) hW.pos_le hW.size_le
    have HX0 := HX.out
    unfold Im.stepP at HX0
    rw [if_neg s0, if_pos s1, if_neg l0] at HX0
    cases hb : Im.bitsP r.s.data.toList a.pos 8 with
    | error e =>
      rw [hb] at HB HX0
      have HX1 := Lib.hid HX0
      clear HX HX0 hb s0 s1 l0
      go_wp2_with (go_at_call 57; refine HB.mono ?_; rintro o w2 ⟨he, hf2⟩; unfold stopped at he; subst he)
      have hI2 := hI.grew (Grew.of_fr (B := B) hf2) hRlt
      have hr2 := hf2.rd R ⟨_, hW.at_, rfl⟩
      refine leaves_cons (f := 54) (args := #[.pointer (some ⟨N + 3, 0, none⟩), .pointer (some ⟨N, 0, none⟩), .pointer (some ⟨N + 1, 0, none⟩), .pointer (some ⟨N + 2, 0, none⟩)]) (by simp) (by simp [go_sem]) ?_
      refine (catch_stops N R hRlt false 0 e r HO.out [] w2 hI2 hr2).mono ?_
      rintro o u' w3 ⟨rfl, rfl, hc⟩
      have c1 := cell_of_row _ _ 0 _ _ _ hc.1.on
      have c2 := cell_of_row _ _ 0 _ _ _ hc.1.e
      simp [Leaves, settle, results, Try.results43, go_sem, c1, c2]
      exact StepPost.not HX1.out h hbl hNle hf2 hc
    | ok v =>
    obtain ⟨c, p⟩ := v
    rw [hb] at HB HX0
    dsimp only at HX0
    obtain ⟨b1, b2, b3⟩ := Im.bitsP_ok hb
    rw [blen] at b3
    have eu := u8_nat c (by omega)
    have ew : IntKind.u8.wrap (c : Int) = (c : Int) := (by rw [IntKind.wrap_u8]; omega)
    obtain ⟨o, ho1, ho2⟩ := hW.out
    have hlen : a.out.length = tb.length + o.length := by rw [ho1, List.length_append]
    have hol := hW.out_le
    have hmost := hW.most_le
    by_cases hm : a.out.length < most
    · rw [if_pos hm] at HX0
      have HX1 := Lib.hid HX0
      have HT := fun w1 hR1 (hf1 : Fr (· = R) W w1) => tell_yes R B { r with bit := (p : Int) } tb.length most o (UInt8.ofNat c) w1 hR1 (ho2.fr hW.at_ hf1) hW.told hW.most_ (Nat.le_trans hW.base hf1.size) hmost (by omega) (by omega) (by omega)
      simp only [eu] at HT
      have hleft := hW.left_le
      have ed : IntKind.i64.wrap ((a.left : Int) - 1) = ((a.left - 1 : Nat) : Int) := by rw [IntWalk.i64_in _ (by omega)]; omega
      have hl1 : a.left - 1 ≤ 65535 := by omega
      have hs1 := Lib.hid s1
      generalize hle : a.left - 1 = l1 at *
      replace hle := Lib.hid hle
      have nr1 : ¬ N + 1 = R := by omega
      have nr2 : ¬ N + 2 = R := by omega
      clear HX HX0 hb s0 s1 l0
      go_wp2_with (first | (go_at_call 57; refine HB.mono ?_; rintro e w1 ⟨rfl, hR1, hf1⟩; clear HB; have k0' := cell_of_row _ _ 0 _ _ _ (hI.grew (Grew.of_fr (B := B) hf1) hRlt).v) | (go_at_call 58; refine (HT _ hR1 hf1).mono ?_; rintro e w2 ⟨rfl, ⟨v, hR2, hv⟩, hg2'⟩; clear HT; have hg2 := (Grew.of_fr (B := B) hf1).trans hg2'; have hI2 := hI.grew hg2 hRlt; have k0'' := cell_of_row _ _ 0 _ _ _ hI2.v; have k1 := cell_of_row _ _ 0 _ _ _ hI2.on; have k2 := cell_of_row _ _ 0 _ _ _ hI2.e; have f1 := frozen_of_row _ _ 0 _ _ hI2.on; have f2 := frozen_of_row _ _ 0 _ _ hI2.e; have f4 := hR2.frozen 4; have klf2 : w2.cell? ⟨R, 4, none⟩ = some (.int .i64 (a.left : Int)) := hR2.left.trans (by rw [← hW.left])))
      have hf3 := (Fr.refl (· = R) w2).setCell (p := ⟨R, 4, none⟩) (Or.inl rfl) (.int .i64 (l1 : Int))
      have hR3 : RdAt (w2.setCell ⟨R, 4, none⟩ (.int .i64 (l1 : Int))) R { r with bit := (p : Int), out := v, left := (l1 : Int) } := hR2.set 4 _ rfl
      have hg3 := hg2.then_fr hf3
      have hI3 := hI2.grew (Grew.of_fr (B := B) hf3) hRlt
      have hS3 : StOne (w2.setCell ⟨R, 4, none⟩ (.int .i64 (l1 : Int))) R B { r with bit := (p : Int), out := v, left := (l1 : Int) } tb most { a with pos := p, left := l1, out := a.out ++ [UInt8.ofNat c] } :=
        { at_ := hR3, bit := rfl, state := hW.state, last := hW.last, left := rfl, told := hW.told, most_ := hW.most_, e := hW.e, out := ⟨_, by rw [ho1, List.append_assoc], hv.fr hR2 hf3⟩, back := hW.back.grew hW.at_ hg3, tabs := fun e => by have e' : a.state = 2 := e; have := hs1.out; omega, base := Nat.le_trans hW.base hg3.size, pos_le := b3, size_le := hW.size_le, out_le := by simp only [List.length_append, List.length_cons, List.length_nil]; omega, most_le := hmost, left_le := hl1, state_le := hW.state_le, one := hW.one }
      have hs3 : (({ r with bit := (p : Int), out := v, left := (l1 : Int) } : Rd).s, ({ r with bit := (p : Int), out := v, left := (l1 : Int) } : Rd).back) = (r.s, r.back) := rfl
      clear hI2 k0'' k1 k2 f1 f2 f4 klf2
      refine leaves_cons (f := 54) (args := #[.pointer (some ⟨N + 3, 0, none⟩), .pointer (some ⟨N, 0, none⟩), .pointer (some ⟨N + 1, 0, none⟩), .pointer (some ⟨N + 2, 0, none⟩)]) (by simp) (by simp [go_sem]) ?_
      refine (catch_idle _ _ _ _ _).mono ?_
      rintro o u' w3 ⟨rfl, rfl, rfl⟩
      have l1 := cell_of_row _ _ 0 _ _ _ (lies_alloc (.cells #[.int .i64 0] 83) (lies_setOther (lies_set hI3.on 0 (.bool true) (c' := #[.bool true]) rfl) (p := ⟨N + 2, 0, none⟩) (by show N + 1 ≠ N + 2; omega) (.int .i64 0)))
      have l2 := cell_of_row _ _ 0 _ _ _ (lies_alloc (.cells #[.int .i64 0] 83) (lies_set (lies_setOther hI3.e (p := ⟨N + 1, 0, none⟩) (by show N + 2 ≠ N + 1; omega) (.bool true)) 0 (.int .i64 0) (c' := #[.int .i64 0]) rfl))
      simp [Leaves, settle, results, Try.results43, go_sem, l1, l2]
      exact StepPost.done HX1.out hbl hNle hS3 hs3 hg3 hI3
    · rw [if_neg hm] at HX0
      have HX1 := Lib.hid HX0
      have HT := fun w1 hR1 (hf1 : Fr (· = R) W w1) => tell_no R B { r with bit := (p : Int) } tb.length most o (UInt8.ofNat c) w1 hR1 (ho2.fr hW.at_ hf1) hW.told hW.most_ (by omega) (by omega) (by omega) (by omega)
      simp only [eu] at HT
      clear HX HX0 hb s0 s1 l0
      go_wp2_with (first | (go_at_call 57; refine HB.mono ?_; rintro e w1 ⟨rfl, hR1, hf1⟩; clear HB; have k0' := cell_of_row _ _ 0 _ _ _ (hI.grew (Grew.of_fr (B := B) hf1) hRlt).v) | (go_at_call 58; refine (HT _ hR1 hf1).mono ?_; rintro o w2 ⟨he, hf2'⟩; unfold stopped at he; subst he))
      have hf2 := hf1.trans hf2'
      have hI2 := hI.grew (Grew.of_fr (B := B) hf2) hRlt
      have hr2 := hf2.rd R ⟨_, hW.at_, rfl⟩
      refine leaves_cons (f := 54) (args := #[.pointer (some ⟨N + 3, 0, none⟩), .pointer (some ⟨N, 0, none⟩), .pointer (some ⟨N + 1, 0, none⟩), .pointer (some ⟨N + 2, 0, none⟩)]) (by simp) (by simp [go_sem]) ?_
      refine (catch_stops N R hRlt false 0 93 r HO.out [] w2 hI2 hr2).mono ?_
      rintro o u' w3 ⟨rfl, rfl, hc⟩
      have c1 := cell_of_row _ _ 0 _ _ _ hc.1.on
      have c2 := cell_of_row _ _ 0 _ _ _ hc.1.e
      simp [Leaves, settle, results, Try.results43, go_sem, c1, c2]
      exact StepPost.not HX1.out h hbl hNle hf2 hc
  have s2 : a.state = 2 := by have := hW.state_le; omega
  have kst : W.cell? ⟨R, 2, none⟩ = some (.int .i64 2) := by have := hW.at_.state; rw [hW.state, s2] at this; exact this
  have HE := element_model R B r tb most a W hW s2
  have HX0 := HX.out
  unfold Im.stepP at HX0
  rw [if_neg s0, if_neg s1] at HX0
  cases hb : Im.elemP r.s.data.toList most a with
  | error e =>
    rw [hb] at HE HX0
    have HX1 := Lib.hid HX0
    clear HX HX0 hb s0 s1 s2
    go_wp2_with (go_at_call 59; refine HE.mono ?_; rintro o w2 ⟨he, hf2⟩; unfold stopped at he; subst he)
    have hI2 := hI.grew (Grew.of_fr (B := B) hf2) hRlt
    have hr2 := hf2.rd R ⟨_, hW.at_, rfl⟩
    refine leaves_cons (f := 54) (args := #[.pointer (some ⟨N + 3, 0, none⟩), .pointer (some ⟨N, 0, none⟩), .pointer (some ⟨N + 1, 0, none⟩), .pointer (some ⟨N + 2, 0, none⟩)]) (by simp) (by simp [go_sem]) ?_
    refine (catch_stops N R hRlt false 0 e r HO.out [] w2 hI2 hr2).mono ?_
    rintro o u' w3 ⟨rfl, rfl, hc⟩
    have c1 := cell_of_row _ _ 0 _ _ _ hc.1.on
    have c2 := cell_of_row _ _ 0 _ _ _ hc.1.e
    simp [Leaves, settle, results, Try.results43, go_sem, c1, c2]
    exact StepPost.not HX1.out h hbl hNle hf2 hc
  | ok a' =>
    rw [hb] at HE HX0
    have HX1 := Lib.hid HX0
    clear HX HX0 hb s0 s1 s2
    go_wp2_with (go_at_call 59; refine HE.mono ?_; rintro o w2 ⟨rfl, ⟨r', hS2, hs2⟩, hg2⟩; clear HE; have hI2 := hI.grew hg2 hRlt; have k1 := cell_of_row _ _ 0 _ _ _ hI2.on; have k2 := cell_of_row _ _ 0 _ _ _ hI2.e; have f1 := frozen_of_row _ _ 0 _ _ hI2.on; have f2 := frozen_of_row _ _ 0 _ _ hI2.e)
    refine leaves_cons (f := 54) (args := #[.pointer (some ⟨N + 3, 0, none⟩), .pointer (some ⟨N, 0, none⟩), .pointer (some ⟨N + 1, 0, none⟩), .pointer (some ⟨N + 2, 0, none⟩)]) (by simp) (by simp [go_sem]) ?_
    refine (catch_idle _ _ _ _ _).mono ?_
    rintro o u' w3 ⟨rfl, rfl, rfl⟩
    have l1 := cell_of_row _ _ 0 _ _ _ (lies_alloc (.cells #[.int .i64 0] 83) (lies_setOther (lies_set hI2.on 0 (.bool true) (c' := #[.bool true]) rfl) (p := ⟨N + 2, 0, none⟩) (by show N + 1 ≠ N + 2; omega) (.int .i64 0)))
    have l2 := cell_of_row _ _ 0 _ _ _ (lies_alloc (.cells #[.int .i64 0] 83) (lies_set (lies_setOther hI2.e (p := ⟨N + 1, 0, none⟩) (by show N + 2 ≠ N + 1; omega) (.bool true)) 0 (.int .i64 0) (c' := #[.int .i64 0]) rfl))
    simp [Leaves, settle, results, Try.results43, go_sem, l1, l2]
    exact StepPost.done HX1.out hbl hNle hS2 hs2 hg2 hI2
end Go.Proofs.Ytcjcmlnbchmnnaa
