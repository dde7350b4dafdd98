/- Plain mathematics of layer 9: the document's Run, block by block, beside the model's (no program in sight). · farrierref09.Run: its contract. -/
import Derived.Test.YtcjcmlnbchmnnaaXD
import Derived.Test.YtcjcmlnbchmnnaaXC
/-! ### XRunP -/
namespace Go.Proofs.Ytcjcmlnbchmnnaa
open Im (St Run stepP begP bitsP tabsP endsP fixLit fixDist)

variable {s : List UInt8} {most : Nat} {b : St} {e : Int} {x : Px}
/-- at a block's beginning, or behind the last one -/
def AtBlock (s : List UInt8) (most : Nat) (b : St) (e : Int) (l : Nat) (x : Px) : Prop :=
  Fin x b e ∨ (x.ok = true ∧ ((l = 0 ∧ ∃ a, Run s most a b e ∧ a.state = 0 ∧ a.pos = x.pos ∧ a.out = x.out) ∨ (l ≠ 0 ∧ e = 0 ∧ b.state = 3 ∧ b.out = x.out ∧ b.pos = (x.pos + 7) / 8 * 8)))
theorem AtBlock.fin {l : Nat} (h : Fin x b e) : AtBlock s most b e l x := Or.inl h
theorem AtBlock.of {l lo : Nat} (hl : l < 2) (h : BlkL s most (l == 1) b e lo x) : AtBlock s most b e l x := by
  rcases h.1 with h | ⟨hk, a, h1, h2, h3, h4⟩
  · exact Or.inl h
  · refine Or.inr ⟨hk, ?_⟩
    unfold endsP at h1
    rw [h4] at h1
    rcases (by omega : l = 0 ∨ l = 1) with rfl | rfl
    · rw [if_neg (by decide)] at h1
      exact Or.inl ⟨rfl, _, h1, rfl, h2, h3⟩
    · rw [if_pos (by decide)] at h1
      obtain ⟨e1, e2⟩ := h1.det (.done rfl)
      subst e1 e2
      refine Or.inr ⟨by omega, rfl, rfl, h3, ?_⟩
      show (a.pos + 7) / 8 * 8 = _
      rw [h2]
/-- what the model makes of a block's kind -/
def kindP (s : List UInt8) (a : St) (l k p : Nat) : Except Int St :=
  if k = 0 then storedP s a (l == 1) ((p + 7) / 8 * 8)
  else if k = 1 then .ok { a with pos := p, state := 2, last := l == 1, lit := fixLit, dist := fixDist }
  else if k = 2 then tabsP s { a with pos := p, last := l == 1 }
  else .error 90
theorem begP_kind (s : List UInt8) (a : St) : begP s a = Im.bindE (bitsP s a.pos 1) fun v => Im.bindE (bitsP s v.2 2) fun u => kindP s a v.1 u.1 u.2 := by
  unfold begP
  cases bitsP s a.pos 1 with
  | error e => rfl
  | ok v =>
    obtain ⟨l, p1⟩ := v
    show _ = Im.bindE (bitsP s p1 2) fun u => kindP s a l u.1 u.2
    dsimp only
    cases bitsP s p1 2 with
    | error e => rfl
    | ok v =>
      obtain ⟨k, p2⟩ := v
      rfl
/-- a block's kind is read -/
theorem AtBlock.kind {x1 x2 : Px} {l k : Nat} (h : AtBlock s most b e 0 x) (hk : x.ok = true) (h1 : x.num s 1 = (l, x1)) (h2 : x1.num s 2 = (k, x2)) :
    (Fin x2 b e ∧ k = 0) ∨ (x2.ok = true ∧ ∃ a, a.out = x2.out ∧ GRes s most (kindP s a l k x2.pos) x2.out b e) := by
  rcases h with h | ⟨_, ⟨_, a, ha, h3, h4, h5⟩ | ⟨h, _⟩⟩
  · rw [h.no] at hk; cases hk
  · have hr := run_res ha (by omega)
    unfold stepP at hr
    rw [if_pos h3, begP_kind, h4, h5] at hr
    have o1 := Px.num_out s x 1
    rw [h1] at o1
    have o2 := Px.num_out s x1 2
    rw [h2] at o2
    dsimp only at o1 o2
    cases hb : bitsP s x.pos 1 with
    | error e' =>
      rw [hb] at hr
      obtain rfl := Px.bits_err hb
      have hf := Px.fails_sh hk
      rw [Px.num_no hk hb] at h1
      obtain ⟨rfl, rfl⟩ := h1
      rw [Px.num_bad hf.no] at h2
      obtain ⟨rfl, rfl⟩ := h2
      exact Or.inl ⟨GRes.fin hr hf rfl, rfl⟩
    | ok v =>
      obtain ⟨l', p1⟩ := v
      rw [hb] at hr
      rw [Px.num_ok hk hb] at h1
      obtain ⟨rfl, rfl⟩ := h1
      have hr : GRes s most (Im.bindE (bitsP s p1 2) fun u => kindP s a l u.1 u.2) x.out b e := hr
      have hk1 : (Px.mk p1 x.out x.e x.sh).ok = true := hk
      cases hb2 : bitsP s p1 2 with
      | error e' =>
        rw [hb2] at hr
        obtain rfl := Px.bits_err hb2
        have hf := Px.fails_sh hk1
        rw [Px.num_no hk1 hb2] at h2
        obtain ⟨rfl, rfl⟩ := h2
        exact Or.inl ⟨GRes.fin hr hf rfl, rfl⟩
      | ok v =>
        obtain ⟨k', p2⟩ := v
        rw [hb2] at hr
        rw [Px.num_ok hk1 hb2] at h2
        obtain ⟨rfl, rfl⟩ := h2
        exact Or.inr ⟨hk, a, h5, hr⟩
  · exact absurd rfl h
theorem kind_stored {a : St} {l : Nat} (h : GRes s most (kindP s a l 0 x.pos) x.out b e) : GRes s most (storedP s a (l == 1) ((x.pos + 7) / 8 * 8)) x.out b e := h
theorem kind_const {a : St} {l : Nat} (hk : x.ok = true) (ho : a.out = x.out) (h : GRes s most (kindP s a l 1 x.pos) x.out b e) : InEl s most (l == 1) fixLit fixDist b e x :=
  Or.inr ⟨_, hk, GRes.ok h, rfl, rfl, rfl, rfl, ho, rfl⟩
theorem kind_own {a : St} {l : Nat} (hk : x.ok = true) (h : GRes s most (kindP s a l 2 x.pos) x.out b e) : Onw s most x.out b e (fun p => tabsP s { ({ a with last := l == 1 } : St) with pos := p }) x :=
  Or.inr ⟨hk, rfl, h⟩
theorem kind_none {a : St} {l k : Nat} (hk : x.ok = true) (h3 : 2 < k) (h : GRes s most (kindP s a l k x.pos) x.out b e) : Fin (x.wrong false 90) b e := by
  unfold kindP at h
  rw [if_neg (by omega), if_neg (by omega), if_neg (by omega)] at h
  rw [Px.wrong_no hk]
  exact GRes.fin h ⟨rfl, fun q => by cases q⟩ rfl
end Go.Proofs.Ytcjcmlnbchmnnaa
/-! ### XRun -/
namespace Go.Proofs.Ytcjcmlnbchmnnaa
open Go.RowKit

set_option maxRecDepth 100000 in
set_option maxHeartbeats 1000000 in
/-- elements of a reader that has failed -/
theorem elements_fin (X B : Nat) (s : ByteArray) (most : Nat) (x : Px) (cl tl cd td : Value) (w : World) (h : XIs w X B s most x) (hk : x.ok = false) :
    Calls Try.prog 48 #[.pointer (some ⟨X, 0, none⟩), .agg #[cl, tl], .agg #[cd, td]] w fun o w' => o = .returned (.tuple #[]) ∧ XIs w' X B s most x ∧ Fr (· = X) w w' := by
  have HL := fun w => lengths_go w
  have HD := fun w => dists_go w
  have hb0 := ((Below.refl w.heap.size w).alloc (Nat.le_refl _) (.cells #[cl, tl] 76)).alloc (by simp) (.cells #[cd, td] 76)
  go_enter Try.func48, Try.ntmps48
  go_wp2_with fail
  refine (HL _).mono ?_
  rintro o w1 ⟨g1, g2, rfl, _, _, _, _, hb1⟩
  go_wp2_with fail
  refine (HD _).mono ?_
  rintro o w2 ⟨g3, g4, rfl, _, _, _, _, hb2⟩
  have hX2 := ((h.below hb0).below hb1).below hb2
  have hF2 : Fr (· = X) w w2 := Fr.of_below (belThen (belThen hb0 hb1) hb2)
  clear HL HD hb0 hb1 hb2 h
  go_wp2_with fail
  go_loopg [10] 0 (fun g v wr => XIs wr X B s most x ∧ Fr (· = X) w wr)
  case atStart => exact ⟨hX2, hF2⟩
  case round =>
    clear hX2 hF2
    obtain ⟨hX2, hF2⟩ := hrel
    have HK := ok_px X B s most x wr hX2
    rw [hk] at HK
    go_wp2_with (go_at_call 45; refine HK.mono ?_; rintro o w' ⟨rfl, rfl⟩; clear HK)
    go_end0
    exact ⟨rfl, hX2, hF2⟩
/-- memory in Run's loop -/
structure RunAt (s : ByteArray) (most : Nat) (w wr : World) (b1 b2 : Nat) (c1 t1 c2 t2 : Value) (y : Px) : Prop where
  is : XIs wr w.heap.size w.heap.size s most y
  bel : Below w.heap.size w wr
  box1 : wr.heap[b1]? = some (.cells #[c1, t1] 76 (0, 0))
  box2 : wr.heap[b2]? = some (.cells #[c2, t2] 76 (0, 0))
  tree1 : TreeAt wr t1 Im.fixLit
  tree2 : TreeAt wr t2 Im.fixDist
  pos : y.pos ≤ 8 * s.size
  out : y.out.length ≤ most
variable {s : ByteArray} {most : Nat} {w wr w2 : World} {b1 b2 : Nat} {c1 t1 c2 t2 : Value} {y y2 : Px}
theorem RunAt.grew (h : RunAt s most w wr b1 b2 c1 t1 c2 t2 y) (hf : Grew w.heap.size w.heap.size wr w2) (h2 : XIs w2 w.heap.size w.heap.size s most y2) (hp : y2.pos ≤ 8 * s.size) (ho : y2.out.length ≤ most) : RunAt s most w w2 b1 b2 c1 t1 c2 t2 y2 := by
  have hC : ∀ k c, wr.heap[k]? = some (.cells c 76 (0, 0)) → ¬ (k = w.heap.size ∨ (w.heap.size ≤ k ∧ ByteRow wr k)) := by
    rintro k c hk (q | ⟨_, cur, q⟩)
    · exact h.is.row_ne (by decide) hk q
    · rw [hk] at q; injection q with q; injection q with _ e; exact absurd e (by decide)
  exact ⟨h2, h.bel.trans (hf.to_below h.bel.size fun k hk => hk.elim (fun e => by rw [e]; exact Nat.le_refl _) fun q => q.1), (hf.block _ (lt_of_block h.box1) (hC _ _ h.box1)).trans h.box1, (hf.block _ (lt_of_block h.box2) (hC _ _ h.box2)).trans h.box2, h.tree1.grew h.is hf, h.tree2.grew h.is hf, hp, ho⟩
theorem RunAt.fr (h : RunAt s most w wr b1 b2 c1 t1 c2 t2 y) (hf : Fr (· = w.heap.size) wr w2) (h2 : XIs w2 w.heap.size w.heap.size s most y2) (hp : y2.pos ≤ 8 * s.size) (ho : y2.out.length ≤ most) : RunAt s most w w2 b1 b2 c1 t1 c2 t2 y2 := h.grew (Grew.of_fr hf) h2 hp ho
theorem RunAt.cells (h : RunAt s most w wr b1 b2 c1 t1 c2 t2 y) : wr.cell? ⟨b1, 0, none⟩ = some c1 ∧ wr.cell? ⟨b1, 1, none⟩ = some t1 ∧ wr.cell? ⟨b2, 0, none⟩ = some c2 ∧ wr.cell? ⟨b2, 1, none⟩ = some t2 :=
  ⟨cell_of_row wr b1 0 _ _ _ h.box1, cell_of_row wr b1 1 _ _ _ h.box1, cell_of_row wr b2 0 _ _ _ h.box2, cell_of_row wr b2 1 _ _ _ h.box2⟩
/-- a state that no run comes to: what has failed stays so -/
theorem Blk.seven {s : List UInt8} {last : Bool} {b : Im.St} {e : Int} {x : Px} (h : Blk s most last { b with state := 7 } e x) (hb : b.state ≠ 3) (hp : x.pos ≤ 8 * s.length) : Fin x b e := by
  rcases h with h | ⟨_, a, h1, h2, _⟩
  · exact ⟨h.1, hb, h.2.2⟩
  · exfalso
    have h3 : (Im.endsP a).state ≤ 3 := by unfold Im.endsP; split <;> simp
    have h4 : (Im.endsP a).pos ≤ 8 * s.length := by unfold Im.endsP; split <;> simp <;> omega
    have := (h1.went h4 h3).2.2.2.2.2
    simp at this
theorem run_start {s : ByteArray} {most : Nat} {w w1 : World} {c1 t1 c2 t2 : Value} (hb : Below (w.alloc (.cells #[.string s, .int .i64 0, .slice none 0 0, .int .i64 (most : Int), .int .i64 0, .bool false] 74)).heap.size (w.alloc (.cells #[.string s, .int .i64 0, .slice none 0 0, .int .i64 (most : Int), .int .i64 0, .bool false] 74)) w1) (ht1 : TreeAt w1 t1 Im.fixLit) (ht2 : TreeAt w1 t2 Im.fixDist) :
    RunAt s most w ((w1.alloc (.cells #[c1, t1] 76)).alloc (.cells #[c2, t2] 76)) w1.heap.size (w1.heap.size + 1) c1 t1 c2 t2 ⟨0, [], 0, false⟩ := by
  have h0 : XIs (w.alloc (.cells #[.string s, .int .i64 0, .slice none 0 0, .int .i64 (most : Int), .int .i64 0, .bool false] 74)) w.heap.size w.heap.size s most ⟨0, [], 0, false⟩ := ⟨.slice none 0 0, heap_alloc_new w _, OutAt.nil _ _⟩
  have e : (w1.alloc (.cells #[c1, t1] 76)).heap.size = w1.heap.size + 1 := by simp
  have hb2 : Below w1.heap.size w1 ((w1.alloc (.cells #[c1, t1] 76)).alloc (.cells #[c2, t2] 76)) := ((Below.refl w1.heap.size w1).alloc (Nat.le_refl _) _).alloc (by rw [e]; omega) _
  have hba := belThen ((Below.refl w.heap.size w).alloc (Nat.le_refl _) (.cells #[.string s, .int .i64 0, .slice none 0 0, .int .i64 (most : Int), .int .i64 0, .bool false] 74)) hb
  have h2 := heap_alloc_new (w1.alloc (.cells #[c1, t1] 76)) (.cells #[c2, t2] 76)
  rw [e] at h2
  exact ⟨(h0.below hb).below hb2, belThen hba hb2, by rw [Below.heap_alloc _ _ _ (by rw [e]; omega)]; exact heap_alloc_new w1 _, h2, ht1.below hb2, ht2.below hb2, Nat.zero_le _, Nat.zero_le _⟩
theorem RunAt.cells2 (h : RunAt s most w wr b1 b2 c1 t1 c2 t2 y) : ∃ v, wr.cell? ⟨w.heap.size, 2, none⟩ = some v ∧ (∀ w' : World, w'.heap = wr.heap → (convert 23 9 v).run Try.prog w' = .ok (.string ⟨y.out.toArray⟩) w') ∧ wr.cell? ⟨w.heap.size, 1, none⟩ = some (.int .i64 (y.pos : Int)) ∧ wr.cell? ⟨w.heap.size, 4, none⟩ = some (.int .i64 y.e) ∧ wr.cell? ⟨w.heap.size, 5, none⟩ = some (.bool y.sh) := by
  obtain ⟨_, c1, c4, c5, _⟩ := h.is.cells
  obtain ⟨v, h1, h2⟩ := h.is
  refine ⟨v, h1.out, fun w' e => conv_own (h2.kept fun g _ => by rw [e]), c1, c4, c5⟩
theorem RunAt.below (h : RunAt s most w wr b1 b2 c1 t1 c2 t2 y) (hb : Below wr.heap.size wr w2) : RunAt s most w w2 b1 b2 c1 t1 c2 t2 y :=
  ⟨h.is.below hb, h.bel.trans (hb.mono h.bel.size), at_bel h.box1 hb, at_bel h.box2 hb, h.tree1.below hb, h.tree2.below hb, h.pos, h.out⟩
theorem Px.num_at {s : List UInt8} {x x' : Px} {n v : Nat} (h1 : x.num s n = (v, x')) (hk : x'.ok = true) : x'.pos = x.pos + n ∧ x.ok = true := by
  have h0 : x.ok = true := Px.num_of (s := s) (n := n) (by rw [h1]; exact hk)
  refine ⟨?_, h0⟩
  unfold Px.num at h1
  rw [h0, if_pos rfl] at h1
  split at h1
  · cases h1; rfl
  · cases h1; have := Px.ok_sh hk; cases this
/-- what Run comes to -/
def XRunIn (c : Im.St) (e : Int) (w : World) (o : Ending) (w' : World) : Prop :=
  ∃ n : Nat, o = .returned (.tuple #[.string ⟨(if e = 0 then c.out else []).toArray⟩, .int .i64 (n : Int), .bool (decide (e = 0 ∧ c.state = 3)), .int .i64 e]) ∧ (e = 0 → c.state = 3 → n = c.pos / 8) ∧ Below w.heap.size w w'
theorem xrun_neg (most : Int) (s : ByteArray) (w : World) (h : most < 0) :
    Calls Try.prog 36 #[.string s, .int .i64 most] w fun o w' => o = .returned (.tuple #[.string ⟨#[]⟩, .int .i64 0, .bool false, .int .i64 1]) ∧ w = w' := by
  have q : decide (most < 0) = true := by simp; omega
  go_enter Try.func36, Try.ntmps36
  go_wp2
  exact bodyPost_ret (v := .tuple #[.string ⟨#[]⟩, .int .i64 0, .bool false, .int .i64 1]) (by simp [results, Try.results36, go_sem]) rfl ⟨rfl, rfl⟩
set_option maxRecDepth 100000 in
set_option maxHeartbeats 4000000 in
theorem xrun_go (most : Nat) (s : ByteArray) (w : World) (c : Im.St) (e : Int) (hm : most ≤ 140737488355328) (hs : s.size ≤ 281474976710656) (hrun : Im.Run s.data.toList most Im.start c e) :
    Calls Try.prog 36 #[.string s, .int .i64 (most : Int)] w (XRunIn c e w) := by
  have q : decide ((most : Int) < 0) = false := by simp
  have HC := fun w => constant_go w
  go_enter Try.func36, Try.ntmps36
  go_upto_region 5 with (go_at_call 44; refine (HC _).mono ?_; rintro o w1 ⟨_, _, _, _, rfl, ⟨a1, n1, k1, rfl⟩, ⟨a2, n2, k2, rfl⟩, ht1, ht2, hb1⟩; obtain ⟨a3, n3, k3, rfl⟩ := ht1.isS; obtain ⟨a4, n4, k4, rfl⟩ := ht2.isS)
  have hR0 := run_start (c1 := .slice a1 n1 k1) (c2 := .slice a2 n2 k2) hb1 ht1 ht2
  clear ht1 ht2 hb1 HC
  generalize hw2 : ((w1.alloc (.cells #[.slice a1 n1 k1, .slice a3 n3 k3] 76)).alloc (.cells #[.slice a2 n2 k2, .slice a4 n4 k4] 76)) = w2 at *
  replace hw2 := Lib.hid hw2
  generalize hg1 : w1.heap.size + 1 = g2 at *
  replace hg1 := Lib.hid hg1
  generalize hg2 : w1.heap.size = g1 at *
  replace hg2 := Lib.hid hg2
  have hA0 : Hid (AtBlock s.data.toList most c e 0 ⟨0, [], 0, false⟩) := Lib.hid (Or.inr ⟨rfl, Or.inl ⟨rfl, _, hrun, rfl, rfl, rfl⟩⟩)
  replace hrun := Lib.hid hrun
  go_wp2_with fail
  go_loopg [11] (8 * s.size + 1) (fun g v wr => ∃ (l : Nat) (y : Px), v = .int .i64 (l : Int) ∧ l < 2 ∧ RunAt s most w wr g1 g2 (.slice a1 n1 k1) (.slice a3 n3 k3) (.slice a2 n2 k2) (.slice a4 n4 k4) y ∧ Hid (AtBlock s.data.toList most c e l y) ∧ (y.ok = true → 8 * s.size < g + y.pos))
  case atStart => exact ⟨0, _, rfl, by omega, hR0, hA0, fun _ => by omega⟩
  case round =>
    clear hR0 hA0
    obtain ⟨l, y, rfl, hl2, hR, hA, hg⟩ := hrel
    have HK := ok_px _ _ s most y wr hR.is
    cases hk : y.ok with
    | false =>
      rw [hk] at HK
      have hfin : Fin y c e := by
        rcases hA.out with q | ⟨q, _⟩
        · exact q
        · rw [hk] at q; cases q
      obtain ⟨v2, k2', HCV, k1', k4', k5'⟩ := hR.cells2
      by_cases he : e = 0
      · subst he
        have hye : y.e = 0 := hfin.1.1
        have hys : y.sh = true := hfin.1.2 rfl
        rw [hye] at k4'
        rw [hys] at k5'
        have HE : Hid (∀ w', Below w.heap.size w w' → XRunIn c 0 w (.returned (.tuple #[.string ⟨y.out.toArray⟩, .int .i64 (((y.pos + 7) / 8 : Nat) : Int), .bool false, .int .i64 0])) w') := Lib.hid (fun w' hb => ⟨(y.pos + 7) / 8, by rw [if_pos rfl, ← hfin.2.2, decide_eq_false (fun q => hfin.2.1 q.2)], fun _ q => absurd q hfin.2.1, hb⟩)
        have HB := Lib.hid hR.bel
        have a7 : IntKind.i64.wrap ((y.pos : Int) + 7) = ((y.pos + 7 : Nat) : Int) := by have := hR.pos; rw [IntWalk.i64_in _ (by omega)]; omega
        have a8 : ((y.pos + 7 : Nat) : Int).tdiv 8 = (((y.pos + 7) / 8 : Nat) : Int) := rfl
        have a9 : IntKind.i64.wrap (((y.pos + 7) / 8 : Nat) : Int) = (((y.pos + 7) / 8 : Nat) : Int) := by have := hR.pos; exact IntWalk.i64_in _ (by omega)
        have HCVd := fun k => HCV (wr.drewN k) (by simp)
        clear hfin hk hR hA hg hye hys HCV
        generalize (y.pos + 7) / 8 = n8 at *
        generalize y.pos + 7 = n7 at *
        go_wp2_with (go_at_call 45; refine HK.mono ?_; rintro o w' ⟨rfl, rfl⟩; clear HK)
        go_quiet (fail)
        go_wp2
        exact bodyPost_ret (v := .tuple #[.string ⟨y.out.toArray⟩, .int .i64 (n8 : Int), .bool false, .int .i64 0]) (by simp [results, Try.results36, go_sem]) rfl (HE.out _ (below_drewN HB.out nq))
      · have q1 : (e != 0) = true := by simpa using he
        rw [hfin.1.1] at k4'
        have HE : Hid (∀ w', Below w.heap.size w w' → XRunIn c e w (.returned (.tuple #[.string ⟨#[]⟩, .int .i64 0, .bool false, .int .i64 e])) w') := Lib.hid (fun w' hb => ⟨0, by rw [if_neg he, decide_eq_false (fun q => he q.1)]; rfl, fun q => absurd q he, hb⟩)
        have HB := Lib.hid hR.bel
        clear hfin hk hR hA hg HCV he
        go_wp2_with (go_at_call 45; refine HK.mono ?_; rintro o w' ⟨rfl, rfl⟩; clear HK)
        go_quiet (fail)
        go_wp2
        exact bodyPost_ret (v := .tuple #[.string ⟨#[]⟩, .int .i64 0, .bool false, .int .i64 e]) (by simp [results, Try.results36, go_sem]) rfl (HE.out _ (below_drewN HB.out nq))
    | true =>
      rw [hk] at HK
      by_cases h0 : l = 0
      · subst h0
        have q0 : (((0 : Nat) : Int) == 0) = true := rfl
        rcases h1 : Px.num s.data.toList y 1 with ⟨l, x1⟩
        rcases h2 : Px.num s.data.toList x1 2 with ⟨k, x2⟩
        have hK := hA.out.kind hk h1 h2
        have f1 := Px.num_facts h1 hR.pos
        have f2 := Px.num_facts h2 f1.2.1
        have l2 : l < 2 := f1.1
        have hk4 : k < 4 := f2.1
        have N1 := num_on _ _ s most y 1 l 1 x1 wr h1 rfl hR.is hR.pos (by omega) hs
        have N2 := fun w1 hx => num_on w.heap.size w.heap.size s most x1 2 k 2 x2 w1 h2 rfl hx f1.2.1 (by omega) hs
        have hg' := hg hk
        have hgp : 0 < gk := by have := hR.pos; omega
        have hat : x2.ok = true → x2.pos = y.pos + 3 := fun q => by
          obtain ⟨e2, q1⟩ := Px.num_at h2 q
          obtain ⟨e1, _⟩ := Px.num_at h1 q1
          omega
        have hms : ∀ y' : Px, x2.ok = true → (y'.ok = true → x2.pos ≤ y'.pos) → Hid (y'.ok = true → 8 * s.size < gk - 1 + y'.pos) := fun y' q1 q2 => Lib.hid (fun q => by have := hat q1; have := q2 q; omega)
        have hmf : ∀ y' : Px, Fin y' c e → Hid (y'.ok = true → 8 * s.size < gk - 1 + y'.pos) := fun y' q => Lib.hid (fun q1 => by rw [q.no] at q1; cases q1)
        have o1 : x1.out.length ≤ most := by rw [f1.2.2.1]; exact hR.out
        have o2 : x2.out.length ≤ most := by rw [f2.2.2.1]; exact o1
        have p1 := f1.2.1
        have p2 := f2.2.1
        have hR1 := fun w1 hf hx => hR.fr (w2 := w1) (y2 := x1) hf hx p1 o1
        have hR2 := fun w1 w2 (h : RunAt s most w w1 g1 g2 (.slice a1 n1 k1) (.slice a3 n3 k3) (.slice a2 n2 k2) (.slice a4 n4 k4) x1) hf hx => h.fr (w2 := w2) (y2 := x2) hf hx p2 o2
        clear f1 f2 h1 h2 hat hg hg' hR hA hk
        replace hl2 := Lib.hid hl2
        rcases hK with ⟨hfin, rfl⟩ | ⟨hk2, a, hao, hres⟩
        · have q1 : (((0 : Nat) : Int) == 0) = true := rfl
          have HS := fun w1 hx hB => stored_px w.heap.size w.heap.size s most x2 (l == 1) c { c with state := 7 } e w1 hx p2 hs hm o2 hB (Or.inl ⟨hfin.1, by simp, hfin.2.2⟩)
          replace hfin := Lib.hid hfin
          go_wp2_with (first | (go_at_call 45; refine HK.mono ?_; rintro o w' ⟨rfl, rfl⟩; clear HK) | (go_at_call 46; refine N1.mono ?_; rintro o w3 ⟨rfl, g3, hf3⟩; clear N1; have hRa := hR1 w3 hf3 g3) | (go_at_call 46; refine (N2 _ g3).mono ?_; rintro o w4 ⟨rfl, g4, hf4⟩; clear N2; have hRb := hR2 w3 w4 hRa hf4 g4))
          refine (HS _ g4 hRb.bel.size).mono ?_
          rintro o w5 ⟨rfl, ⟨x3, g5, hbl, p5, o5⟩, hf5⟩
          have hfin3 := hbl.1.seven hfin.out.2.1 (by rw [blen]; exact p5)
          have hRc := hRb.grew hf5 g5 p5 o5
          have hAc := Lib.hid (AtBlock.fin (s := s.data.toList) (most := most) (l := l) hfin3)
          have hmc := hmf x3 hfin3
          clear HS hR1 hR2 hRa hRb hms hmf hbl hfin3
          go_wp2_with fail
          go_roundg (gk - 1)
          case measure => omega
          case rel => exact ⟨l, x3, rfl, l2, hRc, hAc, hmc.out⟩
        · by_cases k0 : k = 0
          · subst k0
            have q1 : (((0 : Nat) : Int) == 0) = true := rfl
            have HS := fun w1 hx hB => stored_px w.heap.size w.heap.size s most x2 (l == 1) a c e w1 hx p2 hs hm o2 hB (Or.inr ⟨hk2, hao, kind_stored hres⟩)
            go_wp2_with (first | (go_at_call 45; refine HK.mono ?_; rintro o w' ⟨rfl, rfl⟩; clear HK) | (go_at_call 46; refine N1.mono ?_; rintro o w3 ⟨rfl, g3, hf3⟩; clear N1; have hRa := hR1 w3 hf3 g3) | (go_at_call 46; refine (N2 _ g3).mono ?_; rintro o w4 ⟨rfl, g4, hf4⟩; clear N2; have hRb := hR2 w3 w4 hRa hf4 g4))
            refine (HS _ g4 hRb.bel.size).mono ?_
            rintro o w5 ⟨rfl, ⟨x3, g5, hbl, p5, o5⟩, hf5⟩
            have hRc := hRb.grew hf5 g5 p5 o5
            have hAc := Lib.hid (AtBlock.of l2 hbl)
            have hmc := hms x3 hk2 hbl.2
            clear HS hR1 hR2 hRa hRb hms hmf hbl
            go_wp2_with fail
            go_roundg (gk - 1)
            case measure => omega
            case rel => exact ⟨l, x3, rfl, l2, hRc, hAc, hmc.out⟩
          have q1 : ((k : Int) == 0) = false := by simp; omega
          by_cases k1' : k = 1
          · subst k1'
            have q2 : (((1 : Nat) : Int) == 1) = true := rfl
            have q1' : (((1 : Nat) : Int) == 0) = false := rfl
            have hIE := kind_const hk2 hao hres
            have HS := fun w1 (h1 : RunAt s most w w1 g1 g2 (.slice a1 n1 k1) (.slice a3 n3 k3) (.slice a2 n2 k2) (.slice a4 n4 k4) x2) => elements_px w.heap.size w.heap.size s most x2 (l == 1) c e (.slice a1 n1 k1) (.slice a2 n2 k2) (.slice a3 n3 k3) (.slice a4 n4 k4) Im.fixLit Im.fixDist w1 h1.is h1.tree1 h1.tree2 Im.fixLit_short Im.fixDist_short (by rw [Im.fixLit_length]; omega) (by rw [Im.fixDist_length]; omega) p2 hs hm o2 h1.bel.size hIE
            clear hres hIE
            go_wp2_with (first | (go_at_call 45; refine HK.mono ?_; rintro o w' ⟨rfl, rfl⟩; clear HK) | (go_at_call 46; refine N1.mono ?_; rintro o w3 ⟨rfl, g3, hf3⟩; clear N1; have hRa := hR1 w3 hf3 g3) | (go_at_call 46; refine (N2 _ g3).mono ?_; rintro o w4 ⟨rfl, g4, hf4⟩; clear N2; have hRb := hR2 w3 w4 hRa hf4 g4; obtain ⟨d1, d2, d3, d4⟩ := hRb.cells))
            refine (HS _ hRb).mono ?_
            rintro o w5 ⟨rfl, ⟨x3, g5, hbl, p5, o5⟩, hf5⟩
            have hRc := hRb.grew hf5 g5 p5 o5
            have hAc := Lib.hid (AtBlock.of l2 hbl)
            have hmc := hms x3 hk2 hbl.2
            clear HS hR1 hR2 hRa hRb hms hmf hbl d1 d2 d3 d4
            go_wp2_with fail
            go_roundg (gk - 1)
            case measure => omega
            case rel => exact ⟨l, x3, rfl, l2, hRc, hAc, hmc.out⟩
          have q2 : ((k : Int) == 1) = false := by simp; omega
          by_cases k2' : k = 2
          · subst k2'
            have q3 : (((2 : Nat) : Int) == 2) = true := rfl
            have q1' : (((2 : Nat) : Int) == 0) = false := rfl
            have q2' : (((2 : Nat) : Int) == 1) = false := rfl
            have hIE := kind_own hk2 hres
            have HO := fun w1 hx => own_px w.heap.size w.heap.size s most x2 (l == 1) { a with last := l == 1 } c e w1 hx p2 hs o2 rfl hao hIE
            unfold OwnPost at HO
            clear hres hIE
            go_wp2_with (first | (go_at_call 45; refine HK.mono ?_; rintro o w' ⟨rfl, rfl⟩; clear HK) | (go_at_call 46; refine N1.mono ?_; rintro o w3 ⟨rfl, g3, hf3⟩; clear N1; have hRa := hR1 w3 hf3 g3) | (go_at_call 46; refine (N2 _ g3).mono ?_; rintro o w4 ⟨rfl, g4, hf4⟩; clear N2; have hRb := hR2 w3 w4 hRa hf4 g4) | (go_at_call 49; refine (HO _ g4).mono ?_; rintro o w5 ⟨_, _, _, _, x3, rfl, ⟨⟨b1, m1, j1, rfl⟩, ⟨b2, m2, j2, rfl⟩, ⟨b3, m3, j3, rfl⟩, ⟨b4, m4, j4, rfl⟩⟩, g5, p5, o5, hf5, lo5, hor⟩; clear HO; have hRc := hRb.fr hf5 g5 p5 o5))
            have hbw : Below w5.heap.size w5 ((w5.alloc (.cells #[.slice b1 m1 j1, .slice b2 m2 j2] 76)).alloc (.cells #[.slice b3 m3 j3, .slice b4 m4 j4] 76)) := ((Below.refl _ w5).alloc (Nat.le_refl _) _).alloc (by simp) _
            have hRd := hRc.below hbw
            rcases hor with hfin | ⟨nl, nd, a', hel, t1, t2, s1, s2, z1, z2⟩
            · refine (elements_fin _ _ s most x3 _ _ _ _ _ hRd.is hfin.no).mono ?_
              rintro o w6 ⟨rfl, g6, hf6⟩
              have hRe := hRd.fr hf6 g6 p5 o5
              have hAc := Lib.hid (AtBlock.fin (s := s.data.toList) (most := most) (l := l) hfin)
              have hmc := hmf x3 hfin
              clear hR1 hR2 hRa hRb hRc hRd hms hmf hfin
              go_wp2_with fail
              go_roundg (gk - 1)
              case measure => omega
              case rel => exact ⟨l, x3, rfl, l2, hRe, hAc, hmc.out⟩
            · refine (elements_px _ _ s most x3 (l == 1) c e _ _ _ _ nl nd _ hRd.is (t1.below hbw) (t2.below hbw) s1 s2 z1 z2 p5 hs hm o5 hRd.bel.size (Or.inr ⟨a', hel⟩)).mono ?_
              rintro o w6 ⟨rfl, ⟨x4, g6, hbl, p6, o6⟩, hf6⟩
              have hRe := hRd.grew hf6 g6 p6 o6
              have hAc := Lib.hid (AtBlock.of l2 hbl)
              have hmc := hms x4 hk2 (fun q => Nat.le_trans (lo5 hel.ok) (hbl.2 q))
              clear hR1 hR2 hRa hRb hRc hRd hms hmf hbl hel
              go_wp2_with fail
              go_roundg (gk - 1)
              case measure => omega
              case rel => exact ⟨l, x4, rfl, l2, hRe, hAc, hmc.out⟩
          have q3 : ((k : Int) == 2) = false := by simp; omega
          have hfin := kind_none hk2 (by omega) hres
          have HW := fun w1 hx => wrong_px w.heap.size w.heap.size s most x2 false 90 w1 hx
          obtain ⟨p5, o5⟩ := Px.wrong_pos x2 false 90
          generalize x2.wrong false 90 = x3 at *
          have p2' : x3.pos ≤ 8 * s.size := by rw [p5]; exact p2
          have o2' : x3.out.length ≤ most := by rw [o5]; exact o2
          have hAc := Lib.hid (AtBlock.fin (s := s.data.toList) (most := most) (l := l) hfin)
          have hmc := hmf x3 hfin
          clear hres hfin k0 k1' k2' p5 o5
          go_wp2_with (first | (go_at_call 45; refine HK.mono ?_; rintro o w' ⟨rfl, rfl⟩; clear HK) | (go_at_call 46; refine N1.mono ?_; rintro o w3 ⟨rfl, g3, hf3⟩; clear N1; have hRa := hR1 w3 hf3 g3) | (go_at_call 46; refine (N2 _ g3).mono ?_; rintro o w4 ⟨rfl, g4, hf4⟩; clear N2; have hRb := hR2 w3 w4 hRa hf4 g4) | (go_at_call 50; refine (HW _ g4).mono ?_; rintro o w5 ⟨rfl, g5, hf5⟩; clear HW; have hRc := hRb.fr hf5 g5 p2' o2'))
          go_roundg (gk - 1)
          case measure => omega
          case rel => exact ⟨l, x3, rfl, l2, hRc, hAc, hmc.out⟩
      · have q0 : ((l : Int) == 0) = false := by simp; omega
        obtain ⟨v2, k2', HCV, k1', k4', k5'⟩ := hR.cells2
        obtain ⟨_, rfl, h3, hco, hcp⟩ : l ≠ 0 ∧ e = 0 ∧ c.state = 3 ∧ c.out = y.out ∧ c.pos = (y.pos + 7) / 8 * 8 := by
          rcases hA.out with q | ⟨_, ⟨q, _⟩ | q⟩
          · have := q.no; rw [hk] at this; cases this
          · exact absurd q h0
          · exact q
        have hye : y.e = 0 := Px.ok_e hk
        have hys : y.sh = false := Px.ok_sh hk
        rw [hye] at k4'
        rw [hys] at k5'
        have HE : Hid (∀ w', Below w.heap.size w w' → XRunIn c 0 w (.returned (.tuple #[.string ⟨y.out.toArray⟩, .int .i64 (((y.pos + 7) / 8 : Nat) : Int), .bool true, .int .i64 0])) w') := Lib.hid (fun w' hb => ⟨(y.pos + 7) / 8, by rw [if_pos rfl, hco, decide_eq_true ⟨rfl, h3⟩], fun _ _ => by rw [hcp]; omega, hb⟩)
        have HB := Lib.hid hR.bel
        have a7 : IntKind.i64.wrap ((y.pos : Int) + 7) = ((y.pos + 7 : Nat) : Int) := by have := hR.pos; rw [IntWalk.i64_in _ (by omega)]; omega
        have a8 : ((y.pos + 7 : Nat) : Int).tdiv 8 = (((y.pos + 7) / 8 : Nat) : Int) := rfl
        have a9 : IntKind.i64.wrap (((y.pos + 7) / 8 : Nat) : Int) = (((y.pos + 7) / 8 : Nat) : Int) := by have := hR.pos; exact IntWalk.i64_in _ (by omega)
        have HCVd := fun k => HCV (wr.drewN k) (by simp)
        clear hk hR hA hg hye hys HCV h0 h3 hco hcp hl2
        generalize (y.pos + 7) / 8 = n8 at *
        generalize y.pos + 7 = n7 at *
        go_wp2_with (go_at_call 45; refine HK.mono ?_; rintro o w' ⟨rfl, rfl⟩; clear HK)
        go_quiet (fail)
        go_wp2
        exact bodyPost_ret (v := .tuple #[.string ⟨y.out.toArray⟩, .int .i64 (n8 : Int), .bool true, .int .i64 0]) (by simp [results, Try.results36, go_sem]) rfl (HE.out _ (below_drewN HB.out nq))
end Go.Proofs.Ytcjcmlnbchmnnaa
