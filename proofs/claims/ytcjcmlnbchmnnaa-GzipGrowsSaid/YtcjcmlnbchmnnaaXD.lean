/- Plain mathematics of layer 9: a block's own codes, by the document's reader and by the model (no program in sight). · X.own: what its memory holds, step by step. · X.own: its contract. -/
import Derived.Test.YtcjcmlnbchmnnaaXA
import Derived.Test.YtcjcmlnbchmnnaaITables
import Derived.Test.YtcjcmlnbchmnnaaXB
import Derived.Test.YtcjcmlnbchmnnaaXC
import Derived.Deep.RegionHeld3
import Derived.Deep.RegionWith
/-! ### XOwnP -/
namespace Go.Proofs.Ytcjcmlnbchmnnaa
open Im (St Run stepP bitsP symP lensP ownP tabsP tabsK bindE)

/-- it has failed as the model has, or the model has so much still to do -/
def Onw (s : List UInt8) (most : Nat) (out : List UInt8) (b : St) (e : Int) (R : Nat → Except Int St) (y : Px) : Prop := Fin y b e ∨ (y.ok = true ∧ y.out = out ∧ GRes s most (R y.pos) out b e)
variable {s : List UInt8} {most : Nat} {out : List UInt8} {b : St} {e : Int} {x : Px}
theorem Onw.congr {R R' : Nat → Except Int St} (h : Onw s most out b e R x) (q : ∀ p, R p = R' p) : Onw s most out b e R' x := by
  rw [show R' = R from funext fun p => (q p).symm]; exact h
theorem Onw.num {n v : Nat} {x' : Px} {K : Nat × Nat → Except Int St} (h : Onw s most out b e (fun p => bindE (bitsP s p n) K) x) (h1 : x.num s n = (v, x')) : Onw s most out b e (fun p => K (v, p)) x' := by
  rcases h with h | ⟨hk, ho, h⟩
  · rw [Px.num_bad h.no] at h1; cases h1; exact Or.inl h
  · dsimp only at h
    cases hb : bitsP s x.pos n with
    | error e' =>
      rw [hb] at h
      obtain rfl := Px.bits_err hb
      rw [Px.num_no hk hb] at h1
      cases h1
      exact Or.inl (GRes.fin h (Px.fails_sh hk) ho)
    | ok w =>
      rw [hb] at h
      rw [Px.num_ok (v := w.1) (p := w.2) hk hb] at h1
      cases h1
      exact Or.inr ⟨hk, ho, h⟩
theorem Onw.sym {ns : List Nat} {v : Nat} {x' : Px} {K : Nat × Nat → Except Int St} (h : Onw s most out b e (fun p => bindE (symP ns s p) K) x) (h1 : x.sym s ns = (v, x')) : Onw s most out b e (fun p => K (v, p)) x' := by
  rcases h with h | ⟨hk, ho, h⟩
  · rw [Px.sym_bad h.no] at h1; cases h1; exact Or.inl h
  · dsimp only at h
    cases hb : symP ns s x.pos with
    | error e' =>
      rw [hb] at h
      obtain ⟨q1, q2, q3, _⟩ := Px.sym_no hk hb
      rw [h1] at q1 q2 q3
      exact Or.inl (GRes.fin h q2 (q3.trans ho))
    | ok w =>
      rw [hb] at h
      rw [Px.sym_ok (v := w.1) (p := w.2) hk hb] at h1
      cases h1
      exact Or.inr ⟨hk, ho, h⟩
theorem Onw.wrong {c : Prop} [Decidable c] {e0 : Int} {x' : Px} {R : Nat → Except Int St} (h : Onw s most out b e (fun p => if c then R p else .error e0) x) (he : e0 ≠ 0) (h1 : x.wrong (decide c) e0 = x') : Fin x' b e ∨ (c ∧ x' = x ∧ x.ok = true ∧ x.out = out ∧ GRes s most (R x.pos) out b e) := by
  rcases h with h | ⟨hk, ho, h⟩
  · rw [Px.wrong_bad h.no] at h1; subst h1; exact Or.inl h
  · dsimp only at h
    by_cases hc : c
    · rw [if_pos hc] at h
      rw [decide_eq_true hc, Px.wrong_yes] at h1
      exact Or.inr ⟨hc, h1.symm, hk, ho, h⟩
    · rw [if_neg hc] at h
      rw [decide_eq_false hc, Px.wrong_no hk] at h1
      subst h1
      exact Or.inl (GRes.fin h ⟨rfl, fun q => absurd q he⟩ ho)
/-- the lengths of the lengths' codes, one by one -/
theorem own_cons (i : Nat) (is own : List Nat) (p : Nat) (K : List Nat × Nat → Except Int St) : bindE (ownP s (i :: is) own p) K = bindE (bitsP s p 3) fun v => bindE (ownP s is (own.set i v.1) v.2) K := by
  rw [ownP]
  cases bitsP s p 3 with
  | error e => rfl
  | ok v => rfl
/-- behind the lengths: three checks -/
def tabsK2 (a : St) (hl : Nat) (v : List Nat × Nat) : Except Int St :=
  if 0 < v.1.getD 256 0 then (if Hm.err (v.1.take (hl + 257)) = 0 then (if Hm.err (v.1.drop (hl + 257)) = 0 then .ok { a with pos := v.2, state := 2, lit := v.1.take (hl + 257), dist := v.1.drop (hl + 257) } else .error 90) else .error 90) else .error 90
theorem tabsK_eq (s : List UInt8) (a : St) (hl hd : Nat) (own : List Nat) (p : Nat) : tabsK s a hl hd (own, p) = if Hm.err own = 0 then bindE (lensP own s (hl + 257 + hd + 1) (hl + 257 + hd + 2) p []) (tabsK2 a hl) else .error 90 := by
  unfold tabsK
  dsimp only
  by_cases h : Hm.err own = 0
  · rw [if_neg (fun q => q h), if_pos h]
    congr 1
    funext v
    unfold tabsK2
    by_cases h0 : v.1.getD 256 0 = 0
    · rw [if_pos h0, if_neg (show ¬ 0 < v.1.getD 256 0 by omega)]
    · rw [if_neg h0, if_pos (show 0 < v.1.getD 256 0 by omega)]
      by_cases h1 : Hm.err (v.1.take (hl + 257)) = 0
      · rw [if_pos h1]
        by_cases h2 : Hm.err (v.1.drop (hl + 257)) = 0
        · rw [if_pos h2, if_neg (show ¬ (Hm.err (v.1.take (hl + 257)) ≠ 0 ∨ Hm.err (v.1.drop (hl + 257)) ≠ 0) from fun q => q.elim (fun q => q h1) (fun q => q h2))]
        · rw [if_neg h2, if_pos (Or.inr h2)]
      · rw [if_neg h1, if_pos (Or.inl h1)]
  · rw [if_pos h, if_neg h]
/-- so many lengths more -/
def moreP (s : List UInt8) (ns : List Nat) (all f : Nat) (l : List Nat) (K : List Nat × Nat → Except Int St) (many what p : Nat) : Except Int St :=
  if (l ++ List.replicate many what).length ≤ all then bindE (lensP ns s all f p (l ++ List.replicate many what)) K else .error 90
/-- a symbol of the lengths -/
def lenSym (s : List UInt8) (ns : List Nat) (all f : Nat) (l : List Nat) (K : List Nat × Nat → Except Int St) (x p : Nat) : Except Int St :=
  if x = 16 then (if 0 < l.length then bindE (bitsP s p 2) fun k => moreP s ns all f l K (3 + k.1) (l.getLastD 0) k.2 else .error 90)
  else if x = 17 then bindE (bitsP s p 3) fun k => moreP s ns all f l K (3 + k.1) 0 k.2
  else if x = 18 then bindE (bitsP s p 7) fun k => moreP s ns all f l K (11 + k.1) 0 k.2
  else moreP s ns all f l K 1 x p
theorem lens_step (ns : List Nat) (all f : Nat) (l : List Nat) (K : List Nat × Nat → Except Int St) (p : Nat) (h : l.length < all) :
    bindE (lensP ns s all (f + 1) p l) K = bindE (symP ns s p) fun v => lenSym s ns all f l K v.1 v.2 := by
  rw [lensP, if_pos h]
  cases symP ns s p with
  | error e => rfl
  | ok v =>
    obtain ⟨x, p1⟩ := v
    show bindE (if x = 16 then _ else _) K = lenSym s ns all f l K x p1
    have key : ∀ (m n w : Nat), bindE (match bitsP s p1 n with
        | .error e => (.error e : Except Int (List Nat × Nat))
        | .ok (k, p') => if l.length + (m + k) ≤ all then lensP ns s all f p' (l ++ List.replicate (m + k) w) else .error 90) K = bindE (bitsP s p1 n) fun k => moreP s ns all f l K (m + k.1) w k.2 := by
      intro m n w
      cases bitsP s p1 n with
      | error e => rfl
      | ok v =>
        obtain ⟨k, p2⟩ := v
        show bindE (if _ then _ else _) K = moreP s ns all f l K (m + k) w p2
        unfold moreP
        rw [List.length_append, List.length_replicate]
        by_cases q : l.length + (m + k) ≤ all
        · rw [if_pos q, if_pos q]
        · rw [if_neg q, if_neg q]; rfl
    unfold lenSym
    by_cases h16 : x = 16
    · rw [if_pos h16, if_pos h16]
      by_cases hn : l = []
      · rw [if_pos hn, if_neg (by rw [hn]; simp)]; rfl
      · rw [if_neg hn, if_pos (by cases l with | nil => exact absurd rfl hn | cons _ _ => simp)]
        exact key 3 2 _
    rw [if_neg h16, if_neg h16]
    by_cases h17 : x = 17
    · rw [if_pos h17, if_pos h17]; exact key 3 3 0
    rw [if_neg h17, if_neg h17]
    by_cases h18 : x = 18
    · rw [if_pos h18, if_pos h18]; exact key 11 7 0
    rw [if_neg h18, if_neg h18]
    unfold moreP
    rw [if_pos (by simp; omega)]; rfl
theorem lens_end (ns : List Nat) (all f : Nat) (l : List Nat) (K : List Nat × Nat → Except Int St) (p : Nat) (h : ¬ l.length < all) : bindE (lensP ns s all (f + 1) p l) K = K (l, p) := by
  rw [lensP, if_neg h]; rfl
/-- the last checks -/
theorem Onw.codes {last : Bool} {a : St} {hl : Nat} {l : List Nat} {y5 y6 y7 : Px} (h : Onw s most out b e (fun p => tabsK2 a hl (l, p)) x) (ha : a.last = last) (hao : a.out = out)
    (h5 : x.wrong (decide (0 < l.getD 256 0)) 90 = y5) (h6 : y5.wrong (decide (Hm.err (l.take (hl + 257)) = 0)) 90 = y6) (h7 : y6.wrong (decide (Hm.err (l.drop (hl + 257)) = 0)) 90 = y7) :
    Fin y7 b e ∨ (Hm.err (l.take (hl + 257)) = 0 ∧ Hm.err (l.drop (hl + 257)) = 0 ∧ ∃ a', ElAt s most last (l.take (hl + 257)) (l.drop (hl + 257)) b e y7 a') := by
  rcases Onw.wrong h (by omega) h5 with h | ⟨_, rfl, hk, ho, h⟩
  · rw [Px.wrong_bad h.no] at h6
    subst h6
    rw [Px.wrong_bad h.no] at h7
    subst h7
    exact Or.inl h
  · have hh : Onw s most out b e (fun p => if Hm.err (l.take (hl + 257)) = 0 then (if Hm.err (l.drop (hl + 257)) = 0 then .ok { a with pos := p, state := 2, lit := l.take (hl + 257), dist := l.drop (hl + 257) } else .error 90) else .error 90) y5 := Or.inr ⟨hk, ho, h⟩
    rcases Onw.wrong hh (by omega) h6 with h | ⟨e1, rfl, hk, ho, h⟩
    · rw [Px.wrong_bad h.no] at h7
      subst h7
      exact Or.inl h
    · have hh : Onw s most out b e (fun p => if Hm.err (l.drop (hl + 257)) = 0 then .ok { a with pos := p, state := 2, lit := l.take (hl + 257), dist := l.drop (hl + 257) } else .error 90) y6 := Or.inr ⟨hk, ho, h⟩
      rcases Onw.wrong hh (by omega) h7 with h | ⟨e2, rfl, hk, ho, h⟩
      · exact Or.inl h
      · exact Or.inr ⟨e1, e2, _, hk, h.ok, rfl, rfl, rfl, rfl, hao.trans ho.symm, ha⟩
/-- the head of a block's own codes -/
theorem Onw.heads {a : St} {hl hd hc : Nat} {x1 x2 x3 x4 : Px} (h : Onw s most out b e (fun p => tabsP s { a with pos := p }) x) (h1 : x.num s 5 = (hl, x1)) (h2 : x1.num s 5 = (hd, x2)) (h3 : x2.num s 4 = (hc, x3)) (h4 : x3.wrong (decide (hl ≤ 29 ∧ hd ≤ 29)) 90 = x4) :
    Fin x4 b e ∨ (hl ≤ 29 ∧ hd ≤ 29 ∧ Onw s most out b e (fun p => bindE (ownP s (Im.order.take (hc + 4)) (List.replicate 19 0) p) (tabsK s a hl hd)) x4) := by
  have hh := h.congr fun p => Im.tabsP_eq s { a with pos := p }
  have g1 := Onw.num hh h1
  have g2 := Onw.num g1 h2
  have g3 := Onw.num g2 h3
  have g4 : Onw s most out b e (fun p => if hl ≤ 29 ∧ hd ≤ 29 then bindE (ownP s (Im.order.take (hc + 4)) (List.replicate 19 0) p) (tabsK s a hl hd) else .error 90) x3 := by
    refine g3.congr fun p => ?_
    have et : tabsK s { a with pos := x.pos } hl hd = tabsK s a hl hd := rfl
    by_cases q : hl ≤ 29 ∧ hd ≤ 29
    · rw [if_pos q, if_neg (fun r => r q)]; rfl
    · rw [if_neg q, if_pos q]
  rcases Onw.wrong g4 (by omega) h4 with h | ⟨q, rfl, hk, ho, h⟩
  · exact Or.inl h
  · exact Or.inr ⟨q.1, q.2, Or.inr ⟨hk, ho, h⟩⟩
end Go.Proofs.Ytcjcmlnbchmnnaa
/-! ### XOwnM -/
namespace Go.Proofs.Ytcjcmlnbchmnnaa
open Go.RowKit

def zCode : Array Value := #[.slice none 0 0, .slice none 0 0]
/-- what own has come to -/
def OwnPost (X B : Nat) (s : ByteArray) (most : Nat) (last : Bool) (b : Im.St) (e : Int) (lo : Nat) (w : World) (o : Ending) (w' : World) : Prop :=
  ∃ c1 t1 c2 t2 x', o = .returned (.tuple #[.agg #[c1, t1], .agg #[c2, t2]]) ∧ (IsS c1 ∧ IsS t1 ∧ IsS c2 ∧ IsS t2) ∧ XIs w' X B s most x' ∧ x'.pos ≤ 8 * s.size ∧ x'.out.length ≤ most ∧ Fr (· = X) w w' ∧ (x'.ok = true → lo ≤ x'.pos) ∧
    (Fin x' b e ∨ ∃ nl nd a, ElAt s.data.toList most last nl nd b e x' a ∧ TreeAt w' t1 nl ∧ TreeAt w' t2 nd ∧ Hm.Short nl ∧ Hm.Short nd ∧ nl.length ≤ 288 ∧ nd.length ≤ 288)
/-- the two cells of the results -/
structure Res2 (w0 w : World) : Prop where
  r1 : w.heap[w0.heap.size]? = some (.cells zCode 76 (0, 0))
  r2 : w.heap[w0.heap.size + 1]? = some (.cells zCode 76 (0, 0))
theorem Res2.below {w0 w w' : World} (h : Res2 w0 w) (hb : Below w.heap.size w w') : Res2 w0 w' := ⟨at_bel h.r1 hb, at_bel h.r2 hb⟩
theorem Res2.frS {S : Nat → Prop} {w0 w w' : World} (h : Res2 w0 w) (hf : Fr S w w') (hS : ∀ k c, w.heap[k]? = some (.cells c 76 (0, 0)) → ¬ S k) : Res2 w0 w' :=
  ⟨(hf.block _ (lt_of_block h.r1) (hS _ _ h.r1)).trans h.r1, (hf.block _ (lt_of_block h.r2) (hS _ _ h.r2)).trans h.r2⟩
theorem Res2.fr {w0 w w' : World} {X B : Nat} {s : ByteArray} {most : Nat} {x : Px} (h : Res2 w0 w) (hX : XIs w X B s most x) (hf : Fr (· = X) w w') : Res2 w0 w' := h.frS hf fun _ _ hk => hX.row_ne (by decide) hk
theorem res2_start (w : World) : Res2 w ((w.alloc (.cells zCode 76)).alloc (.cells zCode 76)) := by
  refine ⟨by rw [Below.heap_alloc _ _ _ (by simp)]; exact heap_alloc_new w _, ?_⟩
  have := heap_alloc_new (w.alloc (.cells zCode 76)) (.cells zCode 76)
  rwa [show (w.alloc (.cells zCode 76)).heap.size = w.heap.size + 1 by simp] at this
/-- a number that is known -/
theorem num_on (X B : Nat) (s : ByteArray) (most : Nat) (x : Px) (n v : Nat) (k : Int) (x' : Px) (w : World) (h1 : Px.num s.data.toList x n = (v, x')) (hk : k = (n : Int)) (h : XIs w X B s most x) (hp : x.pos ≤ 8 * s.size) (hn : n ≤ 16) (hs : s.size ≤ 281474976710656) :
    Calls Try.prog 46 #[.pointer (some ⟨X, 0, none⟩), .int .i64 k] w fun o w' => o = .returned (.int .i64 (v : Int)) ∧ XIs w' X B s most x' ∧ Fr (· = X) w w' := by
  have := num_px X B s most x n w h hp hn hs
  rw [h1] at this
  subst hk
  exact this
theorem Px.num_facts {s : ByteArray} {x x' : Px} {n v : Nat} (h1 : x.num s.data.toList n = (v, x')) (hp : x.pos ≤ 8 * s.size) : v < 2 ^ n ∧ x'.pos ≤ 8 * s.size ∧ x'.out = x.out ∧ x.pos ≤ x'.pos := by
  have a := Px.num_lt s.data.toList x n
  have b := Px.num_pos (s := s.data.toList) (x := x) (n := n) (by rw [blen]; exact hp)
  have c := Px.num_out s.data.toList x n
  have d := Px.num_ge s.data.toList x n
  rw [h1] at a b c d
  rw [blen] at b
  exact ⟨a, b, c, d⟩

/-- in a block's own codes: it has failed, or P and so much to do -/
def OwG (s : List UInt8) (most : Nat) (out : List UInt8) (b : Im.St) (e : Int) (P : Prop) (R : Nat → Except Int Im.St) (y : Px) : Prop := Fin y b e ∨ (P ∧ Onw s most out b e R y)
theorem OwG.num {s : List UInt8} {most : Nat} {out : List UInt8} {b : Im.St} {e : Int} {P : Prop} {x x' : Px} {n v : Nat} {K : Nat × Nat → Except Int Im.St} (h : OwG s most out b e P (fun p => Im.bindE (Im.bitsP s p n) K) x) (h1 : x.num s n = (v, x')) : OwG s most out b e P (fun p => K (v, p)) x' := by
  rcases h with h | ⟨hP, h⟩
  · rw [Px.num_bad h.no] at h1; cases h1; exact Or.inl h
  · exact Or.inr ⟨hP, h.num h1⟩
theorem OwG.ok {s : List UInt8} {most : Nat} {out : List UInt8} {b : Im.St} {e : Int} {P : Prop} {R : Nat → Except Int Im.St} {x : Px} (h : OwG s most out b e P R x) (hk : x.ok = true) : P ∧ Onw s most out b e R x := by
  rcases h with h | h
  · rw [h.no] at hk; cases hk
  · exact h
theorem OwG.bad {s : List UInt8} {most : Nat} {out : List UInt8} {b : Im.St} {e : Int} {P : Prop} {R : Nat → Except Int Im.St} {x : Px} (h : OwG s most out b e P R x) (hk : x.ok = false) : Fin x b e := by
  rcases h with h | ⟨_, h | ⟨h, _⟩⟩
  · exact h
  · exact h
  · rw [h] at hk; cases hk
theorem num_out_lt {s : ByteArray} {x x' : Px} {v : Nat} (h1 : x.num s.data.toList 3 = (v, x')) : v < 8 := by
  have := Px.num_lt s.data.toList x 3
  rw [h1] at this
  exact this
/-- the order's row and the lengths' row, new -/
def OwnStart (w wx : World) : Prop := Below w.heap.size w wx ∧ wx.rowIs w.heap.size 3 19 (ownF Im.order) ∧ wx.rowIs (w.heap.size + 1) 3 19 (ownF (List.replicate 19 0))
theorem own_start {w : World} {A : Array Value} (hA : A.toList = litV Im.order) : OwnStart w ((w.alloc (.cells A 3)).alloc (.cells (madeCells #[.int .i64 0] 19) 3)) := by
  have h1 := heap_alloc_new w (.cells A 3)
  have e : (w.alloc (.cells A 3)).heap.size = w.heap.size + 1 := by simp
  have h2 := World.rowIs_made (w.alloc (.cells A 3)) (.int .i64 0) 19 3
  rw [e] at h2
  refine ⟨((Below.refl _ _).alloc (Nat.le_refl _) _).alloc (by rw [e]; omega) _, row_lit (l := Im.order) (f := fun i => Im.order.getD i 0) ?_ hA rfl fun _ _ => rfl, h2.congr fun i hi => ?_⟩
  · rw [Below.heap_alloc _ _ _ (by rw [e]; omega)]; exact h1
  · unfold ownF; rw [List.getD_eq_getElem?_getD, List.getElem?_replicate, if_pos hi]; rfl
theorem own_set {w : World} {g o v : Nat} {own : List Nat} (h : w.rowIs g 3 19 (ownF own)) (hl : own.length = 19) (ho : o < 19) : (w.setCell ⟨g, o, none⟩ (.int .i64 (v : Int))).rowIs g 3 19 (ownF (own.set o v)) :=
  (h.set o (.int .i64 (v : Int))).congr fun j hj => by
    unfold ownF
    rw [List.getD_eq_getElem?_getD, List.getD_eq_getElem?_getD, List.getElem?_set]
    by_cases e : j = o
    · subst e; rw [if_pos rfl, if_pos rfl, if_pos (by omega)]; rfl
    · rw [if_neg e, if_neg (fun q => e q.symm)]
theorem own_drop {hc k : Nat} (hk : k < hc + 4) (hc16 : hc < 16) : (Im.order.take (hc + 4)).drop k = Im.order.getD k 0 :: (Im.order.take (hc + 4)).drop (k + 1) := by
  have hl : k < (Im.order.take (hc + 4)).length := by rw [List.length_take]; show k < min (hc + 4) 19; omega
  rw [List.drop_eq_getElem_cons hl, List.getElem_take, List.getD_eq_getElem?_getD, List.getElem?_eq_getElem (by show k < 19; omega)]; rfl
theorem own_short {own : List Nat} {o v : Nat} (h : Hm.Short own) (hv : v < 8) : Hm.Short (own.set o v) := fun n hn => by
  rcases List.mem_or_eq_of_mem_set hn with q | q
  · exact h n q
  · omega
/-- the lengths of the lengths, in the first loop -/
structure OwnAt (X B : Nat) (s : ByteArray) (most : Nat) (w wm wr : World) (g1 : Nat) (own : List Nat) (y : Px) : Prop where
  is : XIs wr X B s most y
  row : wr.rowIs g1 3 19 (ownF own)
  fr : Fr (fun k => k = X ∨ k = g1) wm wr
  len : own.length = 19
  short : Hm.Short own
theorem rowIs_block {w : World} {g n : Nat} {f : Nat → Value} (h : w.rowIs g 3 n f) : ∃ c, w.heap[g]? = some (.cells c 3 (0, 0)) := by obtain ⟨c, hc, _⟩ := h; exact ⟨c, hc⟩
/-- a length is read and stored -/
theorem OwnAt.step {X B : Nat} {s : ByteArray} {most : Nat} {w wm wr w2 : World} {g1 o v : Nat} {own : List Nat} {y y' : Px} (h : OwnAt X B s most w wm wr g1 own y) (hf : Fr (· = X) wr w2) (h2 : XIs w2 X B s most y') (ho : o < 19) (hv : v < 8) :
    OwnAt X B s most w wm (w2.setCell ⟨g1, o, none⟩ (.int .i64 (v : Int))) g1 (own.set o v) y' := by
  have hr2 : w2.rowIs g1 3 19 (ownF own) := by
    obtain ⟨c0, hc0⟩ := rowIs_block h.row
    exact rowFr h.row hf (h.is.row_ne (by decide) hc0)
  obtain ⟨c, hc⟩ := rowIs_block hr2
  exact ⟨h2.setOther hc (by decide) (by decide) o _, own_set hr2 h.len ho, (h.fr.then hf (fun i _ e => Or.inl e)).setCell (p := ⟨g1, o, none⟩) (Or.inl (Or.inr rfl)) _, by rw [List.length_set]; exact h.len, own_short h.short hv⟩
theorem OwnAt.drew {X B : Nat} {s : ByteArray} {most : Nat} {w wm wr : World} {g1 : Nat} {own : List Nat} {y : Px} (h : OwnAt X B s most w wm wr g1 own y) : OwnAt X B s most w wm wr.drew g1 own y :=
  ⟨h.is.drew, h.row, h.fr.drew, h.len, h.short⟩
theorem Res2.cells {w0 w : World} (h : Res2 w0 w) : (w.cell? ⟨w0.heap.size, 0, none⟩ = some (.slice none 0 0) ∧ w.cell? ⟨w0.heap.size, 1, none⟩ = some (.slice none 0 0) ∧ w.cell? ⟨w0.heap.size + 1, 0, none⟩ = some (.slice none 0 0) ∧ w.cell? ⟨w0.heap.size + 1, 1, none⟩ = some (.slice none 0 0)) ∧ (∀ i, w.frozen? ⟨w0.heap.size, i, none⟩ = false) ∧ ∀ i, w.frozen? ⟨w0.heap.size + 1, i, none⟩ = false :=
  ⟨⟨cell_of_row w _ 0 _ _ _ h.r1, cell_of_row w _ 1 _ _ _ h.r1, cell_of_row w _ 0 _ _ _ h.r2, cell_of_row w _ 1 _ _ _ h.r2⟩, fun i => frozen_of_row w _ i _ _ h.r1, fun i => frozen_of_row w _ i _ _ h.r2⟩
/-- the results are laid down -/
def laidRes (w wr : World) (c1 t1 c2 t2 : Value) : World := (((wr.setCell ⟨w.heap.size, 0, none⟩ c1).setCell ⟨w.heap.size, 1, none⟩ t1).setCell ⟨w.heap.size + 1, 0, none⟩ c2).setCell ⟨w.heap.size + 1, 1, none⟩ t2
theorem own_end {X B : Nat} {s : ByteArray} {most : Nat} {y : Px} {w wr : World} (hX : XIs wr X B s most y) (hR : Res2 w wr) (hF : Fr (· = X) w wr) (c1 t1 c2 t2 : Value) :
    XIs (laidRes w wr c1 t1 c2 t2) X B s most y ∧ Fr (· = X) w (laidRes w wr c1 t1 c2 t2) ∧ ∀ v ns, TreeAt wr v ns → TreeAt (laidRes w wr c1 t1 c2 t2) v ns := by
  have hf5 : Fr (fun k => k = w.heap.size ∨ k = w.heap.size + 1) wr (laidRes w wr c1 t1 c2 t2) := ((((Fr.refl _ wr).setCell (p := ⟨w.heap.size, 0, none⟩) (Or.inl (Or.inl rfl)) c1).setCell (p := ⟨w.heap.size, 1, none⟩) (Or.inl (Or.inl rfl)) t1).setCell (p := ⟨w.heap.size + 1, 0, none⟩) (Or.inl (Or.inr rfl)) c2).setCell (p := ⟨w.heap.size + 1, 1, none⟩) (Or.inl (Or.inr rfl)) t2
  have hno : ∀ {T : TypeId} (k : Nat) (c : Array Value), (76 == T) = false → wr.heap[k]? = some (.cells c T (0, 0)) → ¬ (k = w.heap.size ∨ k = w.heap.size + 1) := by
    rintro T k c hT hk (q | q)
    · exact row_apart hR.r1 hk hT q
    · exact row_apart hR.r2 hk hT q
  refine ⟨hX.frS hf5 ?_ (fun k ⟨c, hk⟩ => hno k c (by decide) hk), ((((hF.setCell (p := ⟨w.heap.size, 0, none⟩) (Or.inr (Nat.le_refl _)) c1).setCell (p := ⟨w.heap.size, 1, none⟩) (Or.inr (Nat.le_refl _)) t1).setCell (p := ⟨w.heap.size + 1, 0, none⟩) (Or.inr (Nat.le_succ _)) c2).setCell (p := ⟨w.heap.size + 1, 1, none⟩) (Or.inr (Nat.le_succ _)) t2), fun v ns ht => ht.frS hf5 fun k c hk => hno k c (by decide) hk⟩
  obtain ⟨u, h1, _⟩ := hX
  exact hno X _ (by decide) h1
theorem own_fin {X B : Nat} {s : ByteArray} {most : Nat} {last : Bool} {b : Im.St} {e : Int} {lo : Nat} {y : Px} {w wr : World} (hX : XIs wr X B s most y) (hR : Res2 w wr) (hF : Fr (· = X) w wr) (h1 : y.pos ≤ 8 * s.size) (h2 : y.out.length ≤ most) (h : Fin y b e) {c1 t1 c2 t2 : Value} (hc1 : IsS c1) (ht1 : IsS t1) (hc2 : IsS c2) (ht2 : IsS t2) :
    OwnPost X B s most last b e lo w (.returned (.tuple #[.agg #[c1, t1], .agg #[c2, t2]])) (laidRes w wr c1 t1 c2 t2) := by
  obtain ⟨g1, g2, _⟩ := own_end hX hR hF c1 t1 c2 t2
  exact ⟨c1, t1, c2, t2, y, rfl, ⟨hc1, ht1, hc2, ht2⟩, g1, h1, h2, g2, fun q => (by rw [h.no] at q; cases q), Or.inl h⟩
/-- an empty row of ints, new -/
theorem irow_new (W : World) : IRow (W.alloc (.cells #[] 3)) W.heap.size (.slice (some ⟨W.heap.size, 0, none⟩) 0 0) [] :=
  World.ownsRow_made (e := 3) (size := 1) (base := W.heap.size) W #[] 0 (Nat.le_refl _) (by unfold maxLen; omega) rfl
/-- a code's struct, new -/
theorem box_new {w2 : World} {cl tv : Value} : (((w2.alloc (.cells zCode 76)).setCell ⟨w2.heap.size, 0, none⟩ cl).setCell ⟨w2.heap.size, 1, none⟩ tv).heap[w2.heap.size]? = some (.cells #[cl, tv] 76 (0, 0)) := by
  rw [heap_setCell_same _ _ 1 _ _ _ (heap_setCell_same _ _ 0 _ _ _ (heap_alloc_new w2 _))]; rfl
theorem box_fr {w2 : World} {S : Nat → Prop} (cl tv : Value) : Fr S w2 (((w2.alloc (.cells zCode 76)).setCell ⟨w2.heap.size, 0, none⟩ cl).setCell ⟨w2.heap.size, 1, none⟩ tv) :=
  (((Fr.refl S w2).alloc _).setCell (p := ⟨w2.heap.size, 0, none⟩) (Or.inr (Nat.le_refl _)) cl).setCell (p := ⟨w2.heap.size, 1, none⟩) (Or.inr (Nat.le_refl _)) tv
theorem XIs.frNone {w w' : World} {X B : Nat} {s : ByteArray} {most : Nat} {x : Px} (h : XIs w X B s most x) (hf : Fr (fun _ => False) w w') : XIs w' X B s most x := h.frS hf (fun q => q) fun _ _ q => q
/-! the second loop: lengths -/
theorem Px.num_of {s : List UInt8} {x : Px} {n : Nat} (h : (x.num s n).2.ok = true) : x.ok = true := by
  cases hk : x.ok with
  | true => rfl
  | false => rw [Px.num_bad hk] at h; rw [← hk]; exact h
theorem Px.sym_of {s : List UInt8} {ns : List Nat} {x : Px} (h : (x.sym s ns).2.ok = true) : x.ok = true := by
  cases hk : x.ok with
  | true => rfl
  | false => rw [Px.sym_bad hk] at h; rw [← hk]; exact h
theorem Px.wrong_of {x : Px} {b : Bool} {e : Int} (h : (x.wrong b e).ok = true) : x.ok = true := by
  cases hk : x.ok with
  | true => rfl
  | false => rw [Px.wrong_bad hk] at h; rw [← hk]; exact h
/-- it has gone on from z to z2 -/
structure Px.On (n : Nat) (z z2 : Px) : Prop where
  pos : z2.pos ≤ 8 * n
  out : z2.out = z.out
  lo : z2.ok = true → z.ok = true ∧ z.pos ≤ z2.pos
theorem Px.On.refl {n : Nat} {z : Px} (h : z.pos ≤ 8 * n) : Px.On n z z := ⟨h, rfl, fun q => ⟨q, Nat.le_refl _⟩⟩
theorem Px.On.trans {n : Nat} {a b c : Px} (h : Px.On n a b) (k : Px.On n b c) : Px.On n a c :=
  ⟨k.pos, k.out.trans h.out, fun q => ⟨(h.lo (k.lo q).1).1, Nat.le_trans (h.lo (k.lo q).1).2 (k.lo q).2⟩⟩
theorem Px.On.num {s : ByteArray} {x x' : Px} {n v : Nat} (h1 : x.num s.data.toList n = (v, x')) (hp : x.pos ≤ 8 * s.size) : Px.On s.size x x' := by
  obtain ⟨_, p, o, d⟩ := Px.num_facts h1 hp
  exact ⟨p, o, fun q => ⟨Px.num_of (s := s.data.toList) (n := n) (by rw [h1]; exact q), d⟩⟩
theorem Px.On.sym {s : ByteArray} {ns : List Nat} {x x' : Px} {v : Nat} (h1 : x.sym s.data.toList ns = (v, x')) (hp : x.pos ≤ 8 * s.size) : Px.On s.size x x' := by
  have a := Px.sym_pos (s := s.data.toList) (ns := ns) (x := x) (by rw [blen]; exact hp)
  have b := Px.sym_out s.data.toList ns x
  have c := @Px.sym_of s.data.toList ns x
  have d := @Px.sym_ge s.data.toList ns x
  rw [h1] at a b c d
  rw [blen] at a
  exact ⟨a, b, fun q => ⟨c q, d q⟩⟩
theorem Px.On.wrong {n : Nat} {x x' : Px} {b : Bool} {e : Int} (h1 : x.wrong b e = x') (hp : x.pos ≤ 8 * n) : Px.On n x x' := by
  obtain ⟨p, o⟩ := Px.wrong_pos x b e
  have c := @Px.wrong_of x b e
  rw [h1] at p o c
  exact ⟨by rw [p]; exact hp, o, fun q => ⟨c q, by rw [p]; exact Nat.le_refl _⟩⟩
theorem Px.sym_lt {s : List UInt8} {ns : List Nat} (x : Px) (h0 : 0 < ns.length) : (x.sym s ns).1 < ns.length := by
  cases hk : x.ok with
  | false => rw [Px.sym_bad hk]; exact h0
  | true =>
    cases hs : Im.symP ns s x.pos with
    | error e => rw [(Px.sym_no hk hs).1]; exact h0
    | ok v =>
      obtain ⟨a, p⟩ := v
      rw [Px.sym_ok hk hs]
      exact (Im.symP_ok hs).1
theorem IRow.frX {w w' : World} {X B B' : Nat} {s : ByteArray} {most : Nat} {x : Px} {v : Value} {l : List Nat} (h : IRow w B v l) (hX : XIs w X B' s most x) (hf : Fr (· = X) w w') : IRow w' B v l := by
  refine ⟨h.1, ?_⟩
  rcases h.2 with hn | ⟨g, cap, cur, rfl, h1, hg, rest⟩
  · exact .inl hn
  · exact .inr ⟨g, cap, cur, rfl, h1, by rw [hf.block g (lt_of_block hg) (hX.row_ne (by decide) hg)]; exact hg, rest⟩
/-- memory in the second loop: the reader, the lengths so far in memory of their own -/
structure OwnL (X B : Nat) (s : ByteArray) (most : Nat) (x : Px) (wd wr : World) (v : Value) (l : List Nat) (z : Px) : Prop where
  is : XIs wr X B s most z
  fr : Fr (· = X) wd wr
  row : IRow wr wd.heap.size v l
  pos : z.pos ≤ 8 * s.size
  out : z.out = x.out
  lo : z.ok = true → x.pos ≤ z.pos
theorem OwnL.call {X B : Nat} {s : ByteArray} {most : Nat} {x z z2 : Px} {wd wr w2 : World} {v : Value} {l : List Nat} (h : OwnL X B s most x wd wr v l z) (hf : Fr (· = X) wr w2) (h2 : XIs w2 X B s most z2) (ho : Px.On s.size z z2) : OwnL X B s most x wd w2 v l z2 :=
  ⟨h2, h.fr.trans hf, h.row.frX h.is hf, ho.pos, ho.out.trans h.out, fun q => Nat.le_trans (h.lo (ho.lo q).1) (ho.lo q).2⟩
theorem OwnL.push {X B : Nat} {s : ByteArray} {most : Nat} {x z : Px} {wd wr w2 : World} {v v' : Value} {l l' : List Nat} {o : Obj} (h : OwnL X B s most x wd wr v l z) (hg : (wr.alloc o).grownBy w2 v.ownBlock) (hr : IRow w2 wd.heap.size v' l') : OwnL X B s most x wd w2 v' l' z := by
  have hf : Fr (fun k => v.ownBlock = some k) wr w2 := by
    have ha := (Fr.refl (fun k => v.ownBlock = some k) wr).alloc o
    exact ⟨hg.os.trans ha.os, hg.tape.trans ha.tape, hg.output.trans ha.output, Nat.le_trans ha.size hg.size, fun i hi hn => (hg.block i (Nat.lt_of_lt_of_le hi ha.size) (fun e => hn e.symm)).trans (ha.block i hi hn), fun i q => (ha.rd i q).of_block (hg.block i (ha.rd i q).lt fun e => by
      obtain ⟨_, hlt, cur, hc⟩ := h.row.row i e.symm
      obtain ⟨c, hc2, _⟩ := q
      rw [hc] at hc2; injection hc2 with hc2; injection hc2 with _ e2; exact absurd e2 (by decide))⟩
  refine ⟨h.is.frS hf ?_ ?_, (h.fr.alloc o).grown hg fun k hk => Or.inr (h.row.row k hk).1, hr, h.pos, h.out, h.lo⟩
  · intro e
    obtain ⟨_, _, cur, hc⟩ := h.row.row X e
    exact h.is.row_ne (by decide) hc rfl
  · rintro k ⟨c, hk⟩ e
    obtain ⟨_, _, cur, hc⟩ := h.row.row k e
    rw [hc] at hk; injection hk with hk; injection hk with _ e2; exact absurd e2 (by decide)
/-- .. and what the model has still to do -/
def OwL (s : List UInt8) (most : Nat) (out : List UInt8) (b : Im.St) (e : Int) (own : List Nat) (all g : Nat) (K : List Nat × Nat → Except Int Im.St) (l : List Nat) (z : Px) : Prop :=
  Fin z b e ∨ (Hm.err own = 0 ∧ l.length ≤ all ∧ all < g + l.length ∧ Onw s most out b e (fun p => Im.bindE (Im.lensP own s all g p l) K) z)
end Go.Proofs.Ytcjcmlnbchmnnaa
namespace Go.Proofs.Ytcjcmlnbchmnnaa
open Go.RowKit
variable {s : List UInt8} {most : Nat} {out : List UInt8} {b : Im.St} {e : Int} {own l : List Nat} {all f : Nat} {K : List Nat × Nat → Except Int Im.St} {z z2 z3 : Px}
theorem OwL.bad {g : Nat} (h : OwL s most out b e own all g K l z) (hk : z.ok = false) : Fin z b e := by
  rcases h with h | ⟨_, _, _, h | ⟨h, _⟩⟩
  · exact h
  · exact h
  · rw [h] at hk; cases hk
theorem OwL.good {g : Nat} (h : OwL s most out b e own all g K l z) (hk : z.ok = true) : Hm.err own = 0 ∧ l.length ≤ all ∧ all < g + l.length ∧ Onw s most out b e (fun p => Im.bindE (Im.lensP own s all g p l) K) z := by
  rcases h with h | h
  · rw [h.no] at hk; cases hk
  · exact h
/-- behind a symbol and the tests so far -/
def GS (s : List UInt8) (most : Nat) (out : List UInt8) (b : Im.St) (e : Int) (own : List Nat) (all f : Nat) (l : List Nat) (K : List Nat × Nat → Except Int Im.St) (sv : Nat) (P : Prop) (n what : Nat) (z : Px) : Prop :=
  Fin z b e ∨ (P ∧ what ≤ 15 ∧ Onw s most out b e (fun p => moreP s own all f l K n what p) z) ∨ (¬ P ∧ n = 1 ∧ what = sv ∧ Onw s most out b e (fun p => lenSym s own all f l K sv p) z)
theorem GS.start {sv : Nat} (h : Onw s most out b e (fun p => lenSym s own all f l K sv p) z) (h16 : sv ≠ 16) : GS s most out b e own all f l K sv (sv = 16) 1 sv z := Or.inr (Or.inr ⟨h16, rfl, rfl, h⟩)
theorem GS.sixteen {k : Nat} (h : Onw s most out b e (fun p => lenSym s own all f l K 16 p) z) (hl : 0 < l.length) (hs : Hm.Short l) (h1 : z.num s 2 = (k, z2)) : GS s most out b e own all f l K 16 (16 = 16) (3 + k) (l.getLastD 0) z2 := by
  refine Or.inr (Or.inl ⟨rfl, ?_, Onw.num (K := fun k => moreP s own all f l K (3 + k.1) (l.getLastD 0) k.2) (h.congr fun p => ?_) h1⟩)
  · have : l ≠ [] := by rintro rfl; simp at hl
    rw [List.getLastD_eq_getLast?, List.getLast?_eq_some_getLast this]
    exact hs _ (List.getLast_mem this)
  · unfold lenSym; rw [if_pos rfl, if_pos hl]
theorem GS.sixteen_no {k : Nat} (h : Onw s most out b e (fun p => lenSym s own all f l K 16 p) z) (hl : ¬ 0 < l.length) (h0 : z.wrong false 90 = z2) (h1 : z2.num s 2 = (k, z3)) : Fin z3 b e ∧ k = 0 := by
  have h2 : Onw s most out b e (fun p => if 0 < l.length then Im.bindE (Im.bitsP s p 2) fun k => moreP s own all f l K (3 + k.1) (l.getLastD 0) k.2 else .error 90) z := h.congr fun p => by unfold lenSym; rw [if_pos rfl]
  rcases Onw.wrong (x' := z2) h2 (by omega) (by rw [decide_eq_false hl]; exact h0) with q | ⟨q, _⟩
  · rw [Px.num_bad q.no] at h1; cases h1; exact ⟨q, rfl⟩
  · exact absurd q hl
theorem GS.seventeen {k n what : Nat} (h : GS s most out b e own all f l K 17 (17 = 16) n what z) (h1 : z.num s 3 = (k, z2)) : GS s most out b e own all f l K 17 (17 = 16 ∨ 17 = 17) (3 + k) 0 z2 := by
  rcases h with h | ⟨h, _⟩ | ⟨_, _, _, h⟩
  · rw [Px.num_bad h.no] at h1; cases h1; exact Or.inl h
  · cases h
  · exact Or.inr (Or.inl ⟨Or.inr rfl, by omega, Onw.num (K := fun k => moreP s own all f l K (3 + k.1) 0 k.2) (h.congr fun p => by unfold lenSym; rw [if_neg (by omega), if_pos rfl]) h1⟩)
theorem GS.pass17 {sv n what : Nat} (h : GS s most out b e own all f l K sv (sv = 16) n what z) (h17 : sv ≠ 17) : GS s most out b e own all f l K sv (sv = 16 ∨ sv = 17) n what z := by
  rcases h with h | ⟨h, h2⟩ | ⟨h, h2⟩
  · exact Or.inl h
  · exact Or.inr (Or.inl ⟨Or.inl h, h2⟩)
  · exact Or.inr (Or.inr ⟨by omega, h2⟩)
/-- so many lengths more -/
def GF (s : List UInt8) (most : Nat) (out : List UInt8) (b : Im.St) (e : Int) (own : List Nat) (all f : Nat) (l : List Nat) (K : List Nat × Nat → Except Int Im.St) (n what : Nat) (z : Px) : Prop :=
  Fin z b e ∨ (what ≤ 15 ∧ Onw s most out b e (fun p => moreP s own all f l K n what p) z)
theorem GS.eighteen {k n what : Nat} (h : GS s most out b e own all f l K 18 (18 = 16 ∨ 18 = 17) n what z) (h1 : z.num s 7 = (k, z2)) : GF s most out b e own all f l K (11 + k) 0 z2 := by
  rcases h with h | ⟨h, _⟩ | ⟨_, _, _, h⟩
  · rw [Px.num_bad h.no] at h1; cases h1; exact Or.inl h
  · omega
  · exact Or.inr ⟨by omega, Onw.num (K := fun k => moreP s own all f l K (11 + k.1) 0 k.2) (h.congr fun p => by unfold lenSym; rw [if_neg (by omega), if_neg (by omega), if_pos rfl]) h1⟩
theorem GS.pass18 {sv n what : Nat} (h : GS s most out b e own all f l K sv (sv = 16 ∨ sv = 17) n what z) (h18 : sv ≠ 18) (h19 : sv < 19) : GF s most out b e own all f l K n what z := by
  rcases h with h | ⟨_, h, h2⟩ | ⟨h, rfl, rfl, h2⟩
  · exact Or.inl h
  · exact Or.inr ⟨h, h2⟩
  · exact Or.inr ⟨by omega, h2.congr fun p => by unfold lenSym; rw [if_neg (by omega), if_neg (by omega), if_neg h18]⟩
/-- all of them are there: is it too many? -/
theorem GF.ends {n what : Nat} (h : GF s most out b e own all f l K n what z) (he : Hm.err own = 0) (hfa : all < f + 1 + l.length) (h1 : 1 ≤ n) (hk : z.ok = true) (h2 : z.wrong (decide ((l ++ List.replicate n what).length ≤ all)) 90 = z2) : OwL s most out b e own all f K (l ++ List.replicate n what) z2 := by
  rcases h with h | ⟨_, h⟩
  · rw [h.no] at hk; cases hk
  · rcases Onw.wrong (c := (l ++ List.replicate n what).length ≤ all) h (by omega) h2 with q | ⟨q, rfl, hk2, ho, hr⟩
    · exact Or.inl q
    · exact Or.inr ⟨he, q, by rw [List.length_append, List.length_replicate]; omega, Or.inr ⟨hk2, ho, hr⟩⟩
theorem GF.bad {n what : Nat} (h : GF s most out b e own all f l K n what z) (hk : z.ok = false) : Fin z b e := by
  rcases h with h | ⟨_, h | ⟨h, _⟩⟩
  · exact h
  · exact h
  · rw [h] at hk; cases hk
theorem GF.short {n what k : Nat} (h : GF s most out b e own all f l K n what z) (hk : z.ok = true) (hs : Hm.Short l) : Hm.Short (l ++ List.replicate k what) := by
  rcases h with h | ⟨h, _⟩
  · rw [h.no] at hk; cases hk
  · intro m hm
    rcases List.mem_append.1 hm with q | q
    · exact hs m q
    · rw [List.eq_of_mem_replicate q]; exact h
end Go.Proofs.Ytcjcmlnbchmnnaa
namespace Go.Proofs.Ytcjcmlnbchmnnaa
open Go.RowKit
end Go.Proofs.Ytcjcmlnbchmnnaa
/-! ### XOwn -/
namespace Go.Proofs.Ytcjcmlnbchmnnaa
open Go.RowKit

set_option maxRecDepth 100000 in
set_option maxHeartbeats 4000000 in
theorem own_px (X B : Nat) (s : ByteArray) (most : Nat) (x : Px) (last : Bool) (a b : Im.St) (e : Int) (w : World) (h : XIs w X B s most x) (hp : x.pos ≤ 8 * s.size) (hs : s.size ≤ 281474976710656) (hlen : x.out.length ≤ most)
    (hal : a.last = last) (hao : a.out = x.out) (hG : Onw s.data.toList most x.out b e (fun p => Im.tabsP s.data.toList { a with pos := p }) x) :
    Calls Try.prog 49 #[.pointer (some ⟨X, 0, none⟩)] w (OwnPost X B s most last b e x.pos w) := by
  have hW0 : Below w.heap.size w ((w.alloc (.cells zCode 76)).alloc (.cells zCode 76)) := ((Below.refl w.heap.size w).alloc (Nat.le_refl _) _).alloc (by simp) _
  have hR0 := res2_start w
  have hX0 := h.below hW0
  have hF0 : Fr (· = X) w _ := Fr.of_below hW0
  unfold zCode at hR0 hX0 hF0
  rcases h1 : Px.num s.data.toList x 5 with ⟨hl, x1⟩
  obtain ⟨l1, p1, o1, d1⟩ := Px.num_facts h1 hp
  rcases h2 : Px.num s.data.toList x1 5 with ⟨hd, x2⟩
  obtain ⟨l2, p2, o2, d2⟩ := Px.num_facts h2 p1
  rcases h3 : Px.num s.data.toList x2 4 with ⟨hc, x3⟩
  obtain ⟨l3, p3, o3, d3⟩ := Px.num_facts h3 p2
  have HO := hG.heads h1 h2 h3 rfl
  obtain ⟨p4, o4⟩ := Px.wrong_pos x3 (decide (hl ≤ 29 ∧ hd ≤ 29)) 90
  have HW4 := fun w1 h => wrong_px X B s most x3 (decide (hl ≤ 29 ∧ hd ≤ 29)) 90 w1 h
  generalize hx4 : x3.wrong (decide (hl ≤ 29 ∧ hd ≤ 29)) 90 = x4 at *
  have hp4 : x4.pos ≤ 8 * s.size := by rw [p4]; exact p3
  have ho4 : x4.out = x.out := by rw [o4, o3, o2, o1]
  have hd4 : x.pos ≤ x4.pos := by rw [p4]; omega
  have hl32 : hl < 32 := l1
  have hd32 : hd < 32 := l2
  have hc16 : hc < 16 := l3
  replace HO := Lib.hid HO
  replace hx4 := Lib.hid hx4
  have N1 := fun w1 hx => num_on X B s most x 5 hl 5 x1 w1 h1 rfl hx hp (by omega) hs
  have N2 := fun w1 hx => num_on X B s most x1 5 hd 5 x2 w1 h2 rfl hx p1 (by omega) hs
  have N3 := fun w1 hx => num_on X B s most x2 4 hc 4 x3 w1 h3 rfl hx p2 (by omega) hs
  clear hG h1 h2 h3 l1 l2 l3 d1 d2 d3 o1 o2 o3 p1 p2 p3 p4 o4 hW0 h
  go_enter Try.func49, Try.ntmps49
  go_upto_region 4 with (first | (go_at_call 46; refine (N1 _ hX0).mono ?_; rintro o w1 ⟨rfl, g1, hf1⟩; clear N1) | (go_at_call 46; refine (N2 _ g1).mono ?_; rintro o w2 ⟨rfl, g2, hf2⟩; clear N2) | (go_at_call 46; refine (N3 _ g2).mono ?_; rintro o w3 ⟨rfl, g3, hf3⟩; clear N3))
  have hR3 := ((hR0.fr hX0 hf1).fr g1 hf2).fr g2 hf3
  have hF3 := ((hF0.trans hf1).trans hf2).trans hf3
  clear hX0 hR0 hF0 g1 g2 hf1 hf2 hf3
  go_cut [] (fun wx => XIs wx X B s most x4 ∧ Res2 w wx ∧ Fr (· = X) w wx)
  case first =>
    -- D{
    have HWc := fun b' (hb : decide (hl ≤ 29 ∧ hd ≤ 29) = b') => Lib.hid (hb ▸ HW4 _ g3)
    clear HW4
    by_cases c1 : hl ≤ 29
    · have q1 : decide ((hl : Int) ≤ 29) = true := by simp; omega
      replace HWc := HWc (decide ((hd : Int) ≤ 29)) (by rw [decide_eq_decide]; omega)
      clear c1
      go_wp2_with (go_at_call 50; refine HWc.out.mono ?_; rintro o w4 ⟨rfl, g4, hf4⟩; clear HWc)
      go_meet
      exact ⟨g4, hR3.fr g3 hf4, hF3.trans hf4⟩
    · have q1 : decide ((hl : Int) ≤ 29) = false := by simp; omega
      replace HWc := HWc false (by rw [decide_eq_false_iff_not]; omega)
      clear c1
      go_wp2_with (go_at_call 50; refine HWc.out.mono ?_; rintro o w4 ⟨rfl, g4, hf4⟩; clear HWc)
      go_meet
      exact ⟨g4, hR3.fr g3 hf4, hF3.trans hf4⟩
    -- }D
  case rest =>
    obtain ⟨g4, hR4, hF4⟩ := hcut
    clear hR3 hF3 g3 HW4
    obtain ⟨wa, hwa⟩ : ∃ x : World, x = wc := ⟨wc, rfl⟩
    subst hwa
    have hG4 : Hid (OwG s.data.toList most x.out b e (hl ≤ 29 ∧ hd ≤ 29) (fun p => Im.bindE (Im.ownP s.data.toList ((Im.order.take (hc + 4)).drop 0) (List.replicate 19 0) p) (Im.tabsK s.data.toList a hl hd)) x4) := Lib.hid (by
      rcases HO.out with q | ⟨q1, q2, q3⟩
      · exact Or.inl q
      · exact Or.inr ⟨⟨q1, q2⟩, q3⟩)
    clear HO
    have hmk : ∀ w : World, (Instr.makeSlice 32 (.int .i64 19) (.int .i64 19)).run Try.prog w = .ok (.slice (some ⟨w.heap.size, 0, none⟩) 19 19) (w.alloc (.cells (madeCells #[.int .i64 0] 19) 3)) :=
      run_make_row' (P := Try.prog) 32 3 (.int .i64 0) 8 Try.underlying32 infoInt rfl .i64 .i64 19 (by omega) (by omega)
    go_upto_region 7 with fail
    go_cut [9] (fun v9 wx => v9 = .int .i64 0 ∧ OwnStart wa wx)
    case first =>
      -- D{
      clear hmk
      go_wp2_with fail
      go_meet
      exact ⟨rfl, own_start rfl⟩
      -- }D
    case rest =>
      clear hmk
      obtain ⟨rfl, hb5, ho5, hr5⟩ := hcut
      obtain ⟨wm, hwm⟩ : ∃ x : World, x = wc := ⟨wc, rfl⟩
      subst hwm
      have hA5 : OwnAt X B s most w wm wm (wa.heap.size + 1) (List.replicate 19 0) x4 := ⟨g4.below hb5, hr5, Fr.refl _ _, List.length_replicate, fun n hn => by rw [List.eq_of_mem_replicate hn]; omega⟩
      have hRS : ∀ wr, Fr (fun k => k = X ∨ k = wa.heap.size + 1) wm wr → Res2 w wr := fun wr hf => (hR4.below hb5).frS hf (by
        rintro k c hk (q | q)
        · exact hA5.is.row_ne (by decide) hk q
        · obtain ⟨c0, hc0⟩ := rowIs_block hr5
          subst q
          exact row_apart hk hc0 (by decide) rfl)
      have hF5 := hF4.below hb5
      have hwlt := hF4.size
      have hXa := g4.lt
      clear hr5 hR4 hF4 g4
      have hp4' : x4.pos ≤ 8 * s.size := hp4
      go_wp2_with fail
      go_loopw [9] (fun ii wr => ∃ (i : Nat) (own : List Nat) (y : Px), i ≤ hc + 4 ∧ ii = .int .i64 i ∧ OwnAt X B s most w wm wr (wa.heap.size + 1) own y ∧ Hid (OwG s.data.toList most x.out b e (hl ≤ 29 ∧ hd ≤ 29) (fun p => Im.bindE (Im.ownP s.data.toList ((Im.order.take (hc + 4)).drop i) own p) (Im.tabsK s.data.toList a hl hd)) y) ∧ y.pos ≤ 8 * s.size ∧ y.out = x.out ∧ x.pos ≤ y.pos) (fun ii _ => hc + 4 - (intOf ii).toNat)
      case atStart => exact ⟨0, _, x4, by omega, rfl, hA5, hG4, hp4, ho4, hd4⟩
      case round =>
        clear hA5 hG4 hp4 ho4 hd4 hx4 hp4'
        obtain ⟨i, own, y, hi, rfl, hA, hG, hyp, hyo, hyl⟩ := hrel
        by_cases hlt : i < hc + 4
        · have q0 : decide ((i : Int) < (hc : Int) + 4) = true := by simp; omega
          -- D{
          have q0' : decide (i < hc + 4) = true := by simp; omega
          have hi19 : i < 19 := by omega
          have hq := order_lt i hi19
          have hG1 := hG.out
          rw [own_drop hlt hc16] at hG1
          simp only [own_cons] at hG1
          rcases h1 : Px.num s.data.toList y 3 with ⟨v, y1⟩
          obtain ⟨_, p1, o1, d1⟩ := Px.num_facts h1 hyp
          have hv8 := num_out_lt h1
          have hG2 : Hid (OwG s.data.toList most x.out b e (hl ≤ 29 ∧ hd ≤ 29) (fun p => Im.bindE (Im.ownP s.data.toList ((Im.order.take (hc + 4)).drop (i + 1)) (own.set (Im.order.getD i 0) v) p) (Im.tabsK s.data.toList a hl hd)) y1) := Lib.hid (hG1.num h1)
          have N1 := fun w1 hx => num_on X B s most y 3 v 3 y1 w1 h1 rfl hx hyp (by omega) hs
          have hordr : wr.rowIs wa.heap.size 3 19 (ownF Im.order) := ho5.of_block (hA.fr.block _ ho5.lt (by rintro (q | q) <;> omega))
          have hne : wa.heap.size ≠ X := by omega
          have c2 : wr.drew.cell? ⟨wa.heap.size, i, none⟩ = some (.int .i64 ((Im.order.getD i 0 : Nat) : Int)) := hordr.cell (i := i) hi19
          have hord4 : ∀ w4, Fr (· = X) wr.drew w4 → w4.cell? ⟨wa.heap.size, i, none⟩ = some (.int .i64 ((Im.order.getD i 0 : Nat) : Int)) := fun w4 hf => (rowFr hordr ((Fr.refl (· = X) wr).drew.trans hf) hne).cell (i := i) hi19
          have hix1 := index_int wa.heap.size 19 19 i hi19
          generalize Im.order.getD i 0 = q at *
          have hix2 := index_int (wa.heap.size + 1) 19 19 q hq
          have hAd := hA.drew
          have hrow4 : ∀ w4, Fr (· = X) wr.drew w4 → w4.rowIs (wa.heap.size + 1) 3 19 (ownF own) := fun w4 hf => by
            obtain ⟨c0, hc0⟩ := rowIs_block hAd.row
            exact rowFr hAd.row hf (hAd.is.row_ne (by decide) hc0)
          have hstep := fun w4 hf g4 => hAd.step (w2 := w4) (y' := y1) hf g4 hq hv8
          have gX := hAd.is
          have p1' := Lib.hid p1
          have o1' : Hid (y1.out = x.out) := Lib.hid (o1.trans hyo)
          have d1' : Hid (x.pos ≤ y1.pos) := Lib.hid (Nat.le_trans hyl d1)
          clear hA hAd hordr h1 p1 o1 d1 hG hG1 hyo hyl
          go_upto_block 1 with fail
          go_cut [] (fun wx => OwnAt X B s most w wm wx (wa.heap.size + 1) (own.set q v) y1)
          case first =>
            go_upto_region 10 with fail
            go_region_with (go_at_call 46; refine (N1 _ gX).mono ?_; rintro o w4 ⟨rfl, g4, hf4⟩; have cq := hord4 w4 hf4; have cr := (hrow4 w4 hf4).cell hq; have fr := (hrow4 w4 hf4).frozen q)
            all_goals
              go_wp2_with fail
              go_meet
              exact hstep _ hf4 g4
          case rest =>
            clear hord4 hrow4 hstep gX c2 hix1 hix2 N1
            go_wp2_with fail
            go_roundw
            case measure => simp [intOf]; omega
            case rel => exact ⟨i + 1, _, y1, by omega, by go_num, hcut, hG2, p1'.out, o1'.out, d1'.out⟩
          -- }D
        · obtain rfl : i = hc + 4 := by omega
          have hG1 := hG.out
          rw [List.drop_of_length_le (by rw [List.length_take]; omega)] at hG1
          have hG2 : OwG s.data.toList most x.out b e (hl ≤ 29 ∧ hd ≤ 29) (fun p => Im.tabsK s.data.toList a hl hd (own, p)) y := hG1
          simp only [tabsK_eq] at hG2
          have q0 : decide (((hc + 4 : Nat) : Int) < (hc : Int) + 4) = false := by simp
          have q0' : decide ((hc : Int) + 4 < (hc : Int) + 4) = false := by simp
          have q0'' : decide (hc + 4 < hc + 4) = false := by simp
          clear hG hG1 hi hlt ho5
          have HK := ok_px X B s most y wr hA.is
          have hRr : Res2 w wr := hRS wr hA.fr
          have hFr : Fr (· = X) w wr := hF5.then hA.fr (fun k hk q => q.elim id fun q => by omega)
          have hol : y.out.length ≤ most := by rw [hyo]; exact hlen
          cases hk : y.ok with
          | false =>
            -- D{
            rw [hk] at HK
            have HE := Lib.hid (own_fin (last := last) (lo := x.pos) hA.is hRr hFr hyp hol (hG2.bad hk) ⟨none, 0, 0, rfl⟩ ⟨none, 0, 0, rfl⟩ ⟨none, 0, 0, rfl⟩ ⟨none, 0, 0, rfl⟩)
            obtain ⟨⟨k10, k11, k20, k21⟩, f1, f2⟩ := hRr.cells
            have f10 := f1 0
            have f11 := f1 1
            have f20 := f2 0
            have f21 := f2 1
            clear hG2 hk hA hRS hFr hRr f1 f2
            go_wp2_with (go_at_call 45; refine HK.mono ?_; rintro o w' ⟨rfl, rfl⟩; clear HK)
            exact bodyPost_ret (v := .tuple #[.agg #[.slice none 0 0, .slice none 0 0], .agg #[.slice none 0 0, .slice none 0 0]]) (by simp [results, Try.results49, go_sem, k10, k11, k20, k21]) rfl HE.out
            -- }D
          | true =>
            rw [hk] at HK
            obtain ⟨⟨hl29, hd29⟩, hO⟩ := hG2.ok hk
            have hS : SInts wr (some ⟨wa.heap.size + 1, 0, none⟩) (ints own) := row_sints (ns := own) (by rw [hA.len]; exact hA.row)
            have hgX : wa.heap.size + 1 ≠ X := by omega
            have HC := code_any X B s most y (some ⟨wa.heap.size + 1, 0, none⟩) 19 own wr hA.is hS (by rintro b' off q; injection q with q; injection q with q; omega) hA.short (by rw [hA.len]; omega)
            rw [hA.len] at HC
            have hrel := hO.wrong (by omega) rfl
            have hpw := Px.wrong_pos y (decide (Hm.err own = 0)) 90
            unfold CodeAny at HC
            generalize hy1 : y.wrong (decide (Hm.err own = 0)) 90 = y1 at *
            have hsho := hA.short
            have hleno := hA.len
            have hXr := hA.is
            clear hG2 hk hA hRS hS hO
            go_upto_region 14 with (first | (go_at_call 45; refine HK.mono ?_; rintro o w' ⟨rfl, rfl⟩; clear HK) | (go_at_call 67; refine HC.mono ?_; rintro o w2 ⟨_, _, rfl, ⟨ca, cn, cc, rfl⟩, ⟨ta, tn, tc, rfl⟩, g2, ht2, hf2⟩; clear HC))
            have hbx := heap_alloc_new w2 (.cells #[.slice ca cn cc, .slice ta tn tc] 76)
            have hbw := (Below.refl w2.heap.size w2).alloc (Nat.le_refl _) (.cells #[.slice ca cn cc, .slice ta tn tc] 76)
            have gd := g2.below hbw
            have hRd := (hRr.fr hXr hf2).below hbw
            have hFd := (hFr.trans hf2).below hbw
            have htd : Hm.err own = 0 → TreeAt _ (.slice ta tn tc) own := fun q => (ht2 q).below hbw
            clear hbw
            have hw2e : (w2.alloc (.cells #[.slice ca cn cc, .slice ta tn tc] 76)).heap.size = w2.heap.size + 1 := by simp
            generalize w2.alloc (.cells #[.slice ca cn cc, .slice ta tn tc] 76) = wd at *
            replace hw2e := Lib.hid hw2e
            have hgb := gd.row_ne (by decide) hbx
            generalize w2.heap.size = gb at *
            have hOL : Hid (OwL s.data.toList most x.out b e own (hl + 257 + hd + 1) (hl + 257 + hd + 2) (tabsK2 a hl) [] y1) := Lib.hid (by
              rcases hrel with q | ⟨q1, q2, q3, q4, q5⟩
              · exact Or.inl q
              · subst q2; exact Or.inr ⟨q1, Nat.zero_le _, by simp, Or.inr ⟨q3, q4, q5⟩⟩)
            have hLn : OwnL X B s most x wd (wd.alloc (.cells #[] 3)) (.slice (some ⟨wd.heap.size, 0, none⟩) 0 0) [] y1 :=
              ⟨gd.alloc _, (Fr.refl _ wd).alloc _, irow_new wd, by rw [hpw.1]; exact hyp, hpw.2.trans hyo, fun _ => by rw [hpw.1]; exact hyl⟩
            have hX2 := gd
            clear hrel hpw ht2 hf2 g2 hRr hFr hXr hy1 hyp hyl hol hF5 hb5 q0 q0' q0'' hXa hyo
            go_wp2_with fail
            go_loopg [8] (hl + 257 + hd + 2) (fun g v wr => ∃ l z, OwnL X B s most x wd wr v l z ∧ Hm.Short l ∧ Hid (OwL s.data.toList most x.out b e own (hl + 257 + hd + 1) g (tabsK2 a hl) l z))
            case atStart => exact ⟨[], y1, hLn, fun n hn => by simp at hn, hOL⟩
            case round =>
              clear hLn hOL
              obtain ⟨l, z, hL, hlsh, hOL⟩ := hrel
              obtain ⟨a0, cap, ev, hv⟩ := hL.row.slice
              subst ev
              have HK := ok_px X B s most z wr hL.is
              have hRz : Res2 w wr := hRd.fr gd hL.fr
              have hFz := hFd.trans hL.fr
              have hol : z.out.length ≤ most := by rw [hL.out]; exact hlen
              cases hk : z.ok with
              | false =>
                -- D{
                rw [hk] at HK
                have HE := Lib.hid (own_fin (last := last) (lo := x.pos) hL.is hRz hFz hL.pos hol (hOL.out.bad hk) ⟨none, 0, 0, rfl⟩ ⟨none, 0, 0, rfl⟩ ⟨none, 0, 0, rfl⟩ ⟨none, 0, 0, rfl⟩)
                obtain ⟨⟨k10, k11, k20, k21⟩, f1, f2⟩ := hRz.cells
                have f10 := f1 0
                have f11 := f1 1
                have f20 := f2 0
                have f21 := f2 1
                clear hk hL hOL hRz hFz f1 f2 hRd hFd hbx htd gd hX2 hv
                go_wp2_with (go_at_call 45; refine HK.mono ?_; rintro o w' ⟨rfl, rfl⟩)
                exact bodyPost_ret (v := .tuple #[.agg #[.slice none 0 0, .slice none 0 0], .agg #[.slice none 0 0, .slice none 0 0]]) (by simp [results, Try.results49, go_sem, k10, k11, k20, k21]) rfl HE.out
                -- }D
              | true =>
                rw [hk] at HK
                obtain ⟨he0, hla, hfa, hO⟩ := hOL.out.good hk
                obtain ⟨f, rfl⟩ : ∃ f, gk = f + 1 := ⟨gk - 1, by omega⟩
                clear hOL
                by_cases hlt : l.length < hl + 257 + hd + 1
                · have q0 : decide ((l.length : Int) < (hl : Int) + 257 + (hd : Int) + 1) = true := by simp; omega
                  have hbr : wr.heap[gb]? = some (.cells #[.slice ca cn cc, .slice ta tn tc] 76 (0, 0)) := (hL.fr.block gb (lt_of_block hbx) hgb).trans hbx
                  have c0 := cell_of_row wr gb 0 _ _ _ hbr
                  have c1 := cell_of_row wr gb 1 _ _ _ hbr
                  have HS := sym_px X B s most z (.slice ca cn cc) (.slice ta tn tc) own wr hL.is ((htd he0).fr gd hL.fr) hsho (by rw [hleno]; omega) hL.pos hs
                  unfold SymPost at HS
                  have hsv := Px.sym_lt (s := s.data.toList) (ns := own) z (by rw [hleno]; omega)
                  rcases h1 : Px.sym s.data.toList own z with ⟨sv, z1⟩
                  rw [h1] at HS hsv
                  rw [hleno] at hsv
                  dsimp only at HS hsv
                  have hon := Px.On.sym h1 hL.pos
                  have hS1 : Onw s.data.toList most x.out b e (fun p => lenSym s.data.toList own (hl + 257 + hd + 1) f l (tabsK2 a hl) sv p) z1 := Onw.sym (K := fun v => lenSym s.data.toList own (hl + 257 + hd + 1) f l (tabsK2 a hl) v.1 v.2) (hO.congr fun p => lens_step own _ f l _ p hlt) h1
                  have hL1 := fun w2 hf g2 => hL.call (w2 := w2) (z2 := z1) hf g2 hon
                  clear hRz hFz hol hk hL hO h1 hon hbr hv
                  replace hlt := Lib.hid hlt
                  go_upto_if 71 with (first | (go_at_call 45; refine HK.mono ?_; rintro o w' ⟨rfl, rfl⟩; clear HK) | (go_at_call 66; refine HS.mono ?_; rintro o w2 ⟨rfl, g2, hf2⟩; clear HS))
                  have hLa := hL1 _ hf2 g2
                  clear hL1 hf2 g2 c0 c1
                  go_cut [12, 13] (fun n v wx => ∃ (nn what : Nat) (z2 : Px), n = .int .i64 (nn : Int) ∧ v = .int .i64 (what : Int) ∧ 1 ≤ nn ∧ nn ≤ 200 ∧ OwnL X B s most x wd wx (.slice a0 l.length cap) l z2 ∧ Hid (GS s.data.toList most x.out b e own (hl + 257 + hd + 1) f l (tabsK2 a hl) sv (sv = 16) nn what z2))
                  case first =>
                    -- D{
                    by_cases h16 : sv = 16
                    · subst h16
                      have q1 : (((16 : Nat) : Int) == 16) = true := rfl
                      by_cases hnil : 0 < l.length
                      · have q2 : decide ((0 : Int) < (l.length : Int)) = true := by simp; omega
                        have q2' : decide (0 < l.length) = true := by simp; omega
                        rcases h2 : Px.num s.data.toList z1 2 with ⟨k, z2⟩
                        have hk4 : k < 4 := (Px.num_facts h2 hLa.pos).1
                        have hG := Lib.hid (GS.sixteen hS1 hnil hlsh h2)
                        have HW := wrong_px X B s most z1 true 90 _ hLa.is
                        rw [Px.wrong_yes] at HW
                        have N2 := fun w1 hx => num_on X B s most z1 2 k 2 z2 w1 h2 rfl hx hLa.pos (by omega) hs
                        have hL3 := fun w3 hf3 g3 => hLa.call (w2 := w3) (z2 := z1) hf3 g3 (Px.On.refl hLa.pos)
                        have hon := Px.On.num h2 hLa.pos
                        obtain ⟨g, rfl⟩ : ∃ g, a0 = some ⟨g, 0, none⟩ := by
                          obtain ⟨g, cap', ev', _⟩ := hLa.row.at (l.length - 1) (by omega)
                          cases ev'
                          exact ⟨g, rfl⟩
                        have hat : ∀ w4, IRow w4 wd.heap.size (.slice (some ⟨g, 0, none⟩) l.length cap) l → w4.cell? ⟨g, l.length - 1, none⟩ = some (.int .i64 ((l.getLastD 0 : Nat) : Int)) := fun w4 h4 => by
                          obtain ⟨g', cap'', ev'', hc⟩ := h4.at (l.length - 1) (by omega)
                          cases ev''
                          rw [hc]
                          have hne : l ≠ [] := by rintro rfl; simp at hnil
                          rw [List.getLastD_eq_getLast?, List.getLast?_eq_some_getLast hne, List.getLast_eq_getElem]; rfl
                        have hix := index_int g l.length cap (l.length - 1) (by omega)
                        have a2 : IntKind.i64.wrap ((l.length : Int) - 1) = ((l.length - 1 : Nat) : Int) := by
                          have := hlt.out
                          rw [IntWalk.i64_in _ (by omega)]; omega
                        clear hnil h2 hS1 hLa
                        generalize l.getLastD 0 = what at *
                        generalize l.length - 1 = lk at *
                        go_wp2_with (first | (go_at_call 50; refine HW.mono ?_; rintro o w3 ⟨rfl, g3, hf3⟩; clear HW; have hLb := hL3 w3 hf3 g3) | (go_at_call 46; refine (N2 _ g3).mono ?_; rintro o w4 ⟨rfl, g4, hf4⟩; clear N2; have hLc := hLb.call hf4 g4 hon; have hc4 := hat _ hLc.row))
                        go_meet
                        exact ⟨3 + k, what, z2, by go_num, rfl, by omega, by omega, hLc, hG⟩
                      · have q2 : decide ((0 : Int) < (l.length : Int)) = false := decide_eq_false (by omega)
                        have q2' : decide (0 < l.length) = false := decide_eq_false (by omega)
                        have HW := wrong_px X B s most z1 false 90 _ hLa.is
                        rcases h2 : Px.num s.data.toList (z1.wrong false 90) 2 with ⟨k, z3⟩
                        have hon0 := Px.On.wrong (n := s.size) (x := z1) (b := false) (e := 90) rfl hLa.pos
                        obtain ⟨hfin, rfl⟩ := GS.sixteen_no hS1 hnil rfl h2
                        generalize z1.wrong false 90 = z2 at *
                        have N2 := fun w1 hx => num_on X B s most z2 2 0 2 z3 w1 h2 rfl hx hon0.pos (by omega) hs
                        have hon := Px.On.num h2 hon0.pos
                        have hL3 := fun w3 hf3 g3 => hLa.call (w2 := w3) (z2 := z2) hf3 g3 hon0
                        have hG : Hid (GS s.data.toList most x.out b e own (hl + 257 + hd + 1) f l (tabsK2 a hl) 16 (16 = 16) 3 16 z3) := Lib.hid (Or.inl hfin)
                        clear hnil h2 hS1 hLa hfin hon0
                        go_wp2_with (first | (go_at_call 50; refine HW.mono ?_; rintro o w3 ⟨rfl, g3, hf3⟩; clear HW; have hLb := hL3 w3 hf3 g3) | (go_at_call 46; refine (N2 _ g3).mono ?_; rintro o w4 ⟨rfl, g4, hf4⟩; clear N2; have hLc := hLb.call hf4 g4 hon))
                        go_meet
                        exact ⟨3, 16, z3, by go_num, rfl, by omega, by omega, hLc, hG⟩
                    · have q1 : ((sv : Int) == 16) = false := by simp; omega
                      have hG := Lib.hid (GS.start hS1 h16)
                      clear hS1 h16
                      go_wp2_with fail
                      go_meet
                      exact ⟨1, sv, z1, rfl, rfl, by omega, by omega, hLa, hG⟩
                    -- }D
                  case rest =>
                    clear hLa hS1
                    obtain ⟨nn, what, z2, rfl, rfl, hn1, hn2, hLa, hG⟩ := hcut
                    go_upto_if 90 with fail
                    go_cut [12, 13] (fun n v wx => ∃ (nn what : Nat) (z2 : Px), n = .int .i64 (nn : Int) ∧ v = .int .i64 (what : Int) ∧ 1 ≤ nn ∧ nn ≤ 200 ∧ OwnL X B s most x wd wx (.slice a0 l.length cap) l z2 ∧ Hid (GS s.data.toList most x.out b e own (hl + 257 + hd + 1) f l (tabsK2 a hl) sv (sv = 16 ∨ sv = 17) nn what z2))
                    case first =>
                      -- D{
                      by_cases h17 : sv = 17
                      · subst h17
                        have q1 : (((17 : Nat) : Int) == 17) = true := rfl
                        rcases h2 : Px.num s.data.toList z2 3 with ⟨k, z3⟩
                        have hk4 : k < 8 := (Px.num_facts h2 hLa.pos).1
                        have hG2 := Lib.hid (GS.seventeen hG.out h2)
                        have N2 := num_on X B s most z2 3 k 3 z3 _ h2 rfl hLa.is hLa.pos (by omega) hs
                        have hL3 := fun w3 hf3 g3 => hLa.call (w2 := w3) (z2 := z3) hf3 g3 (Px.On.num h2 hLa.pos)
                        clear h2 hG hLa
                        go_wp2_with (first | (go_at_call 46; refine N2.mono ?_; rintro o w4 ⟨rfl, g4, hf4⟩; clear N2))
                        go_meet
                        exact ⟨3 + k, 0, z3, by go_num, rfl, by omega, by omega, hL3 _ hf4 g4, hG2⟩
                      · have q1 : ((sv : Int) == 17) = false := by simp; omega
                        have hG2 := Lib.hid (GS.pass17 hG.out h17)
                        clear hG h17
                        go_wp2_with fail
                        go_meet
                        exact ⟨nn, what, z2, rfl, rfl, hn1, hn2, hLa, hG2⟩
                      -- }D
                    case rest =>
                      clear hLa hG hn1 hn2
                      obtain ⟨nn, what, z2, rfl, rfl, hn1, hn2, hLa, hG⟩ := hcut
                      go_upto_if 95 with fail
                      go_cut [12, 13] (fun n v wx => ∃ (nn what : Nat) (z2 : Px), n = .int .i64 (nn : Int) ∧ v = .int .i64 (what : Int) ∧ 1 ≤ nn ∧ nn ≤ 200 ∧ OwnL X B s most x wd wx (.slice a0 l.length cap) l z2 ∧ Hid (GF s.data.toList most x.out b e own (hl + 257 + hd + 1) f l (tabsK2 a hl) nn what z2))
                      case first =>
                        -- D{
                        by_cases h18 : sv = 18
                        · subst h18
                          have q1 : (((18 : Nat) : Int) == 18) = true := rfl
                          rcases h2 : Px.num s.data.toList z2 7 with ⟨k, z3⟩
                          have hk4 : k < 128 := (Px.num_facts h2 hLa.pos).1
                          have hG2 := Lib.hid (GS.eighteen hG.out h2)
                          have N2 := num_on X B s most z2 7 k 7 z3 _ h2 rfl hLa.is hLa.pos (by omega) hs
                          have hL3 := fun w3 hf3 g3 => hLa.call (w2 := w3) (z2 := z3) hf3 g3 (Px.On.num h2 hLa.pos)
                          clear h2 hG hLa
                          go_wp2_with (first | (go_at_call 46; refine N2.mono ?_; rintro o w4 ⟨rfl, g4, hf4⟩; clear N2))
                          go_meet
                          exact ⟨11 + k, 0, z3, by go_num, rfl, by omega, by omega, hL3 _ hf4 g4, hG2⟩
                        · have q1 : ((sv : Int) == 18) = false := by simp; omega
                          have hG2 := Lib.hid (GS.pass18 hG.out h18 hsv)
                          clear hG h18
                          go_wp2_with fail
                          go_meet
                          exact ⟨nn, what, z2, rfl, rfl, hn1, hn2, hLa, hG2⟩
                        -- }D
                      case rest =>
                        clear hLa hG hn1 hn2
                        obtain ⟨nn, what, z2, rfl, rfl, hn1, hn2, hLa, hG⟩ := hcut
                        have hXlt := gd.lt
                        clear hsv
                        go_wp2_with fail
                        go_loopg [8, 14] nn (fun g v i wr => ∃ k : Nat, g + k = nn ∧ i = .int .i64 (k : Int) ∧ (z2.ok = false → k = 0) ∧ OwnL X B s most x wd wr v (l ++ List.replicate k what) z2)
                        case atStart => exact ⟨0, by omega, rfl, fun _ => rfl, by rw [List.replicate_zero, List.append_nil]; exact hLa⟩
                        case round =>
                          -- D{
                          clear hLa
                          obtain ⟨k, hgk, rfl, hk0, hLk⟩ := hrel
                          obtain ⟨a1, cap1, ev1, hv1⟩ := hLk.row.slice
                          subst ev1
                          clear hv1
                          have HK := ok_px X B s most z2 wr hLk.is
                          cases hkz : z2.ok with
                          | false =>
                            rw [hkz] at HK
                            obtain rfl := hk0 hkz
                            have q1 : decide ((0 : Int) < (nn : Int)) = true := decide_eq_true (by omega)
                            have q1' : decide (((0 : Nat) : Int) < (nn : Int)) = true := decide_eq_true (by omega)
                            have q1'' : decide (0 < nn) = true := decide_eq_true (by omega)
                            have HW := fun bb => wrong_px X B s most z2 bb 90 wr hLk.is
                            simp only [Px.wrong_bad hkz] at HW
                            have hOL : Hid (OwL s.data.toList most x.out b e own (hl + 257 + hd + 1) f (tabsK2 a hl) (l ++ List.replicate 0 what) z2) := Lib.hid (Or.inl (hG.out.bad hkz))
                            have hsh2 : Hm.Short (l ++ List.replicate 0 what) := by rw [List.replicate_zero, List.append_nil]; exact hlsh
                            replace hgk := Lib.hid hgk
                            replace hfa := Lib.hid hfa
                            clear hkz hk0 hG
                            generalize l ++ List.replicate 0 what = ll at *
                            go_wp2_with (first | (go_at_call 45; refine HK.mono ?_; rintro o w' ⟨rfl, rfl⟩; clear HK) | (go_at_call 50; refine (HW _).mono ?_; rintro o w5 ⟨rfl, g5, hf5⟩; clear HW; have hL5 := hLk.call hf5 g5 (Px.On.refl hLk.pos)))
                            go_roundg f
                            case measure => omega
                            case rel => exact ⟨ll, z2, hL5, hsh2, hOL⟩
                          | true =>
                            rw [hkz] at HK
                            have hB := hLk.fr.size
                            have hll : (l ++ List.replicate k what).length = l.length + k := by simp
                            by_cases hkm : k < nn
                            · have q1 : decide ((k : Int) < (nn : Int)) = true := decide_eq_true (by omega)
                              have q1' : decide (k < nn) = true := decide_eq_true (by omega)
                              have hsz : (l ++ List.replicate k what).length ≤ 1000000 := by rw [hll]; omega
                              have HNX : Hid (l ++ List.replicate (k + 1) what = l ++ List.replicate k what ++ [what]) := by unfold Hid; rw [List.replicate_succ', List.append_assoc]
                              have hk1 : Hid (z2.ok = false → k + 1 = 0) := Lib.hid (fun q => by rw [hkz] at q; cases q)
                              replace hgk := Lib.hid hgk
                              clear hll hk0 hkz
                              generalize l ++ List.replicate k what = ll at *
                              go_wp2_with (first | (go_at_call 45; refine HK.mono ?_; rintro o w' ⟨rfl, rfl⟩; clear HK) | (at_builtin; refine wpList_int rfl (.tmp 108) (.tmp 110) rfl wd.heap.size (.slice a1 ll.length cap1) ll rfl hLk.row what what rfl rfl hsz hB ?_; intro v' w5 hr5 hg5 ho5; have hL5 := hLk.push hg5 hr5))
                              go_roundg (gk - 1)
                              case measure => have := hgk.out; omega
                              case rel => exact ⟨k + 1, by have := hgk.out; omega, by go_num, hk1.out, by rw [HNX.out]; exact hL5⟩
                            · obtain rfl : k = nn := by omega
                              have q1 : decide ((k : Int) < (k : Int)) = false := by simp
                              have q1' : decide (k < k) = false := by simp
                              have hGe := Lib.hid (hG.out.ends he0 hfa hn1 hkz (z2 := z2.wrong (decide ((l ++ List.replicate k what).length ≤ hl + 257 + hd + 1)) 90) rfl)
                              have hsh2 := hG.out.short (k := k) hkz hlsh
                              have HW := wrong_px X B s most z2 (decide ((l ++ List.replicate k what).length ≤ hl + 257 + hd + 1)) 90 wr hLk.is
                              have hon := Px.On.wrong (n := s.size) (x := z2) (b := decide ((l ++ List.replicate k what).length ≤ hl + 257 + hd + 1)) (e := 90) rfl hLk.pos
                              have tb : decide ((l ++ List.replicate k what).length ≤ hl + 257 + hd + 1) = decide (((l ++ List.replicate k what).length : Int) ≤ (hl : Int) + 257 + (hd : Int) + 1) := by rw [decide_eq_decide]; omega
                              rw [tb] at HW hGe hon
                              replace hgk := Lib.hid hgk
                              replace hfa := Lib.hid hfa
                              clear hkz hk0 hG hll tb
                              generalize l ++ List.replicate k what = ll at *
                              go_wp2_with (first | (go_at_call 45; refine HK.mono ?_; rintro o w' ⟨rfl, rfl⟩; clear HK) | (go_at_call 50; refine HW.mono ?_; rintro o w5 ⟨rfl, g5, hf5⟩; clear HW; have hL5 := hLk.call hf5 g5 hon))
                              go_roundg f
                              case measure => omega
                              case rel => exact ⟨ll, _, hL5, hsh2, hGe⟩
                          -- }D
                · have hll : l.length = hl + 257 + hd + 1 := by omega
                  have q0 : decide ((l.length : Int) < (hl : Int) + 257 + (hd : Int) + 1) = false := decide_eq_false (by omega)
                  have hO2 : Onw s.data.toList most x.out b e (fun p => tabsK2 a hl (l, p)) z := hO.congr fun p => lens_end own _ f l _ p hlt
                  obtain ⟨g, rfl, hgB, hglt, hcap1, hcap2, hc5⟩ := hL.row.parts (by omega)
                  have hXlt := gd.lt
                  have hgX' : g ≠ X := by omega
                  have hix : ∀ w' : World, (Instr.indexAt 32 (.slice (some ⟨g, 0, none⟩) l.length cap) (.int .i64 256)).run Try.prog w' = .ok (.pointer (some ⟨g, 256, none⟩)) w' := index_int g l.length cap 256 (by omega)
                  have h256 := hc5 256 (by omega)
                  have HW := wrong_px X B s most z (decide (0 < l.getD 256 0)) 90 wr hL.is
                  generalize hz5 : z.wrong (decide (0 < l.getD 256 0)) 90 = z5 at HW
                  have hon5 := Px.On.wrong (n := s.size) hz5 hL.pos
                  have htl : (l.take (hl + 257)).length = hl + 257 := by rw [List.length_take]; omega
                  have hdl : (l.drop (hl + 257)).length = hd + 1 := by rw [List.length_drop]; omega
                  have hst : Hm.Short (l.take (hl + 257)) := fun n hn => hlsh n (List.mem_of_mem_take hn)
                  have hsd : Hm.Short (l.drop (hl + 257)) := fun n hn => hlsh n (List.mem_of_mem_drop hn)
                  generalize hz6 : z5.wrong (decide (Hm.err (l.take (hl + 257)) = 0)) 90 = z6 at *
                  have hon6 := Px.On.wrong (n := s.size) hz6 hon5.pos
                  generalize hz7 : z6.wrong (decide (Hm.err (l.drop (hl + 257)) = 0)) 90 = z7 at *
                  have hon7 := Px.On.wrong (n := s.size) hz7 hon6.pos
                  have hC := Lib.hid (Onw.codes hO2 hal hao hz5 hz6 hz7)
                  have hF7 := (hon5.trans hon6).trans hon7
                  have hlo7 : Hid (z7.ok = true → x.pos ≤ z7.pos) := Lib.hid (fun q => Nat.le_trans (hL.lo (hF7.lo q).1) (hF7.lo q).2)
                  have hou7 : Hid (z7.out.length ≤ most) := Lib.hid (by rw [hF7.out, hL.out]; exact hlen)
                  have hpo7 := Lib.hid hF7.pos
                  have HC1 : ∀ w1, Fr (· = X) wr w1 → XIs w1 X B s most z5 → Calls Try.prog 67 #[.pointer (some ⟨X, 0, none⟩), .slice (some ⟨g, 0, none⟩) (hl + 257) cap] w1 (CodeAny X B s most (l.take (hl + 257)) z5 w1) := fun w1 hf h1 => by
                    have := code_any X B s most z5 (some ⟨g, 0, none⟩) cap (l.take (hl + 257)) w1 h1 ((sints_take hc5 (hl + 257)).fr hf hgX') (by rintro b' off q; injection q with q; injection q with q; omega) hst (by omega)
                    rw [htl] at this; exact this
                  have HC2 : ∀ w1, Fr (· = X) wr w1 → XIs w1 X B s most z6 → Calls Try.prog 67 #[.pointer (some ⟨X, 0, none⟩), .slice (some ⟨g, hl + 257, none⟩) (hd + 1) (cap - (hl + 257))] w1 (CodeAny X B s most (l.drop (hl + 257)) z6 w1) := fun w1 hf h1 => by
                    have := code_any X B s most z6 (some ⟨g, hl + 257, none⟩) (cap - (hl + 257)) (l.drop (hl + 257)) w1 h1 ((sints_drop hc5 (hl + 257)).fr hf hgX') (by rintro b' off q; injection q with q; injection q with q; omega) hsd (by omega)
                    rw [hdl] at this; exact this
                  unfold CodeAny at HC1 HC2
                  rw [hz6] at HC1
                  rw [hz7] at HC2
                  unfold maxLen at hcap2
                  have hsz5 : ((hl : Int) + 257).toNat = hl + 257 := by omega
                  have hs1 : ∀ w' : World, (Instr.slice 32 (.slice (some ⟨g, 0, none⟩) l.length cap) none (some (.int .i64 ((hl : Int) + 257))) none).run Try.prog w' = .ok (.slice (some ⟨g, 0, none⟩) (hl + 257) cap) w' := by
                    intro w'
                    rw [run_slice_h w' 32 (some ⟨g, 0, none⟩) l.length cap (by rw [intBytes]; exact Try.underlying32) .i64 ((hl : Int) + 257) (by omega) (by omega), intBytes, sizeInt, hsz5]
                    simp [Result.andThen, sliced, Addr.add]
                  have hs2 : ∀ w' : World, (Instr.slice 32 (.slice (some ⟨g, 0, none⟩) l.length cap) (some (.int .i64 ((hl : Int) + 257))) none none).run Try.prog w' = .ok (.slice (some ⟨g, hl + 257, none⟩) (hd + 1) (cap - (hl + 257))) w' := by
                    intro w'
                    rw [run_slice_l w' 32 (some ⟨g, 0, none⟩) l.length cap (by rw [intBytes]; exact Try.underlying32) .i64 ((hl : Int) + 257) (by omega) (by omega), intBytes, sizeInt, hsz5]
                    have e9 : ¬ cap = hl + 257 := by omega
                    have e8 : l.length - (hl + 257) = hd + 1 := by omega
                    simp [Result.andThen, sliced, Addr.add, e9, e8]
                  have hw1 : IntKind.i64.wrap ((hl : Int) + 257) = (hl : Int) + 257 := IntWalk.i64_in _ (by omega)
                  have HSH : Hid (Hm.Short (l.take (hl + 257)) ∧ Hm.Short (l.drop (hl + 257)) ∧ (l.take (hl + 257)).length ≤ 288 ∧ (l.drop (hl + 257)).length ≤ 288) := Lib.hid ⟨hst, hsd, by omega, by omega⟩
                  have hRw : ∀ w7, Fr (· = X) wr w7 → Res2 w w7 := fun w7 hf => (hRd.fr gd hL.fr).fr hL.is hf
                  have hFw : ∀ w7, Fr (· = X) wr w7 → Fr (· = X) w w7 := fun w7 hf => (hFd.trans hL.fr).trans hf
                  clear hsz5 htl hdl hst hsd hO hO2 hon5 hon6 hon7 hF7 hz5 hz6 hz7 hk hRz hFz hol hc5 hll hlt hgX' hcap1 hcap2 hfa hla hsho
                  generalize l.take (hl + 257) = la at *
                  generalize l.drop (hl + 257) = lb at *
                  generalize l.getD 256 0 = v256 at *
                  generalize l.length = ln at *
                  go_upto_region 36 with (first | (go_at_call 45; refine HK.mono ?_; rintro o w' ⟨rfl, rfl⟩))
                  go_cut [] (fun wx => XIs wx X B s most z5 ∧ Fr (· = X) wr wx)
                  case first =>
                    clear HK HC1 HC2 hs1 hs2 hC
                    by_cases hv : 0 < v256
                    · have q1 : decide ((0 : Int) < (v256 : Int)) = true := decide_eq_true (by omega)
                      have q1' : decide (0 < v256) = true := decide_eq_true hv
                      rw [q1'] at HW
                      clear hv
                      go_wp2_with (go_at_call 50; refine HW.mono ?_; rintro o w5 ⟨rfl, g5, hf5⟩; clear HW)
                      go_meet
                      exact ⟨g5, hf5⟩
                    · have q1 : decide ((0 : Int) < (v256 : Int)) = false := decide_eq_false (by omega)
                      have q1' : decide (0 < v256) = false := decide_eq_false hv
                      rw [q1'] at HW
                      clear hv
                      go_wp2_with (go_at_call 50; refine HW.mono ?_; rintro o w5 ⟨rfl, g5, hf5⟩; clear HW)
                      go_meet
                      exact ⟨g5, hf5⟩
                  case rest =>
                    obtain ⟨g5, hf5⟩ := hcut
                    clear HW HK hix h256
                    go_upto_region 37 with fail
                    have g5d := g5.drew
                    have hf5d := hf5.drew
                    clear g5 hf5 hL hRd hFd gd hX2 hv hlsh
                    go_region_with (first | (go_at_call 67; refine (HC1 _ hf5d g5d).mono ?_; rintro o w6 ⟨_, _, rfl, ⟨a1, n1, c1, rfl⟩, ⟨a2, n2, c2, rfl⟩, g6, ht6, hf6⟩; clear HC1) | (go_at_call 67; refine (HC2 _ (hf5d.trans hf6) g6).mono ?_; rintro o w7 ⟨_, _, rfl, ⟨a3, n3, c3, rfl⟩, ⟨a4, n4, c4, rfl⟩, g7, ht7, hf7⟩; clear HC2; have hf57 := (hf5d.trans hf6).trans hf7; have hR7 := hRw w7 hf57; have hF7 := hFw w7 hf57; obtain ⟨⟨k10, k11, k20, k21⟩, f1, f2⟩ := hR7.cells; have f10 := f1 0; have f11 := f1 1; have f20 := f2 0; have f21 := f2 1; clear f1 f2))
                    all_goals
                      go_wp2_with fail
                      obtain ⟨e1, e2, e3⟩ := own_end g7 hR7 hF7 (.slice a1 n1 c1) (.slice a2 n2 c2) (.slice a3 n3 c3) (.slice a4 n4 c4)
                      have HP : OwnPost X B s most last b e x.pos w (.returned (.tuple #[.agg #[.slice a1 n1 c1, .slice a2 n2 c2], .agg #[.slice a3 n3 c3, .slice a4 n4 c4]])) (laidRes w w7 (.slice a1 n1 c1) (.slice a2 n2 c2) (.slice a3 n3 c3) (.slice a4 n4 c4)) := by
                        refine ⟨_, _, _, _, z7, rfl, ⟨⟨_, _, _, rfl⟩, ⟨_, _, _, rfl⟩, ⟨_, _, _, rfl⟩, ⟨_, _, _, rfl⟩⟩, e1, hpo7.out, hou7.out, e2, hlo7.out, ?_⟩
                        rcases hC.out with q | ⟨q1, q2, a', q3⟩
                        · exact Or.inl q
                        · exact Or.inr ⟨la, lb, a', q3, e3 _ _ ((ht6 q1).fr g6 hf7), e3 _ _ (ht7 q2), HSH.out⟩
                      exact bodyPost_ret (v := .tuple #[.agg #[.slice a1 n1 c1, .slice a2 n2 c2], .agg #[.slice a3 n3 c3, .slice a4 n4 c4]]) (by simp [results, Try.results49, go_sem, k10, k11, k20, k21]) rfl HP
end Go.Proofs.Ytcjcmlnbchmnnaa
