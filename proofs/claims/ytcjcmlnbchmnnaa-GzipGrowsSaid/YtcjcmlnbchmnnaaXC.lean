/- The document's tables of lengths and distances: their contracts. · X.stored: its contract. · X.elements: its contract. -/
import Derived.Test.YtcjcmlnbchmnnaaRead
import Derived.Test.YtcjcmlnbchmnnaaCodes
import Derived.Test.YtcjcmlnbchmnnaaXA
import Derived.Deep.LoopGhost
import Derived.Test.YtcjcmlnbchmnnaaIAhead
import Derived.StillTailTactics
import Derived.Deep.RegionLaw
import Derived.RegionTactic
import Derived.BigRegion
import Derived.Deep.DeepCutAuto
import Derived.Deep.CutBlock
/-! ### XTabs -/
namespace Go.Proofs.Ytcjcmlnbchmnnaa
open Go.RowKit

def litV (l : List Nat) : List Value := l.map fun n : Nat => .int .i64 (n : Int)
def lenL : List Nat := [3, 4, 5, 6, 7, 8, 9, 10, 11, 13, 15, 17, 19, 23, 27, 31, 35, 43, 51, 59, 67, 83, 99, 115, 131, 163, 195, 227, 258]
def lenM : List Nat := [0, 0, 0, 0, 0, 0, 0, 0, 1, 1, 1, 1, 2, 2, 2, 2, 3, 3, 3, 3, 4, 4, 4, 4, 5, 5, 5, 5, 0]
def dstL : List Nat := [1, 2, 3, 4, 5, 7, 9, 13, 17, 25, 33, 49, 65, 97, 129, 193, 257, 385, 513, 769, 1025, 1537, 2049, 3073, 4097, 6145, 8193, 12289, 16385, 24577]
def dstM : List Nat := [0, 0, 0, 0, 1, 1, 2, 2, 3, 3, 4, 4, 5, 5, 6, 6, 7, 7, 8, 8, 9, 9, 10, 10, 11, 11, 12, 12, 13, 13]
theorem row_lit {w : World} {g n : Nat} {A : Array Value} {l : List Nat} {f : Nat → Nat} (h : w.heap[g]? = some (.cells A 3 (0, 0))) (hA : A.toList = litV l) (hn : l.length = n) (hf : ∀ i, i < n → l.getD i 0 = f i) : w.rowIs g 3 n (fun i => .int .i64 ((f i : Nat) : Int)) := by
  have hs : A.size = n := by rw [← Array.length_toList, hA, litV, List.length_map, hn]
  refine ⟨A, h, hs, fun i hi => ?_⟩
  have hl : i < l.length := by omega
  have e1 := hf i hi
  rw [List.getD_eq_getElem?_getD, List.getElem?_eq_getElem hl] at e1
  rw [← Array.getElem?_toList, hA, litV, List.getElem?_map, List.getElem?_eq_getElem hl]
  show some (Value.int .i64 ((l[i] : Nat) : Int)) = _
  rw [show l[i] = f i from e1]
def TwoRows (n : Nat) (f g : Nat → Nat) (w : World) (o : Ending) (w' : World) : Prop :=
  ∃ g1 g2, o = .returned (.tuple #[.slice (some ⟨g1, 0, none⟩) n n, .slice (some ⟨g2, 0, none⟩) n n]) ∧ w'.rowIs g1 3 n (fun i => .int .i64 ((f i : Nat) : Int)) ∧ w'.rowIs g2 3 n (fun i => .int .i64 ((g i : Nat) : Int)) ∧ w.heap.size ≤ g1 ∧ w.heap.size ≤ g2 ∧ Below w.heap.size w w'
theorem two_rows {n : Nat} {f g : Nat → Nat} {w : World} {A B : Array Value} {l m : List Nat} (hA : A.toList = litV l) (hB : B.toList = litV m) (hl : l.length = n) (hm : m.length = n) (hf : ∀ i, i < n → l.getD i 0 = f i) (hg : ∀ i, i < n → m.getD i 0 = g i) :
    TwoRows n f g w (.returned (.tuple #[.slice (some ⟨w.heap.size, 0, none⟩) n n, .slice (some ⟨w.heap.size + 1, 0, none⟩) n n])) ((w.alloc (.cells A 3)).alloc (.cells B 3)) := by
  have h1 := heap_alloc_new w (.cells A 3)
  have h2 := heap_alloc_new (w.alloc (.cells A 3)) (.cells B 3)
  have e : (w.alloc (.cells A 3)).heap.size = w.heap.size + 1 := by simp
  rw [e] at h2
  refine ⟨_, _, rfl, row_lit ?_ hA hl hf, row_lit h2 hB hm hg, Nat.le_refl _, by omega, ((Below.refl _ _).alloc (Nat.le_refl _) _).alloc (by rw [e]; omega) _⟩
  rw [Below.heap_alloc _ _ _ (by rw [e]; omega)]; exact h1
set_option maxRecDepth 100000 in
theorem lengths_go (w : World) : Calls Try.prog 64 #[] w (TwoRows 29 (fun i => Im.lenBase (i + 257)) (fun i => Im.lenMore (i + 257)) w) := by
  go_enter Try.func64, Try.ntmps64
  go_wp2
  go_ret2
  exact two_rows (l := lenL) (m := lenM) rfl rfl rfl rfl (by decide) (by decide)
set_option maxRecDepth 100000 in
theorem dists_go (w : World) : Calls Try.prog 65 #[] w (TwoRows 30 Im.dstBase Im.dstMore w) := by
  go_enter Try.func65, Try.ntmps65
  go_wp2
  go_ret2
  exact two_rows (l := dstL) (m := dstM) rfl rfl rfl rfl (by decide) (by decide)
end Go.Proofs.Ytcjcmlnbchmnnaa
/-! ### XStored -/
namespace Go.Proofs.Ytcjcmlnbchmnnaa
open Go.RowKit

theorem Px.tell_pos (most : Nat) (x : Px) (c : UInt8) : (x.tell most c).pos = x.pos := by
  unfold Px.tell; split
  · split <;> rfl
  · rfl
theorem Px.tell_len {most n : Nat} {x : Px} (c : UInt8) (h : x.out.length ≤ n) : (x.tell most c).out.length ≤ n + 1 := by
  unfold Px.tell; split
  · split
    · simp; omega
    · simpa using (by omega : x.out.length ≤ n + 1)
  · omega
theorem Px.tell_most {most : Nat} {x : Px} (c : UInt8) (h : x.out.length ≤ most) : (x.tell most c).out.length ≤ most := by
  unfold Px.tell; split
  · split
    · simp; omega
    · exact h
  · exact h
theorem Px.num_ge (s : List UInt8) (x : Px) (n : Nat) : x.pos ≤ (x.num s n).2.pos := by
  unfold Px.num; split
  · split
    · exact Nat.le_add_right _ _
    · exact Nat.le_refl _
  · exact Nat.le_refl _
theorem Px.sym_ge {s : List UInt8} {ns : List Nat} {x : Px} (h : (x.sym s ns).2.ok = true) : x.pos ≤ (x.sym s ns).2.pos := by
  cases hk : x.ok with
  | false => rw [Px.sym_bad hk]; exact Nat.le_refl _
  | true =>
    cases hs : Im.symP ns s x.pos with
    | error e => rw [(Px.sym_no hk hs).2.1.no] at h; cases h
    | ok v =>
      obtain ⟨a, p⟩ := v
      rw [Px.sym_ok hk hs]
      exact Nat.le_of_lt (Im.symP_ok hs).2.1
/-- a block has been read, and no bit twice -/
def BlkL (s : List UInt8) (most : Nat) (last : Bool) (b : Im.St) (e : Int) (lo : Nat) (x : Px) : Prop := Blk s most last b e x ∧ (x.ok = true → lo ≤ x.pos)
theorem BlkL.fin {s : List UInt8} {most : Nat} {last : Bool} {b : Im.St} {e : Int} {lo : Nat} {x : Px} (h : Fin x b e) : BlkL s most last b e lo x := ⟨Or.inl h, fun q => by rw [h.no] at q; cases q⟩
theorem u8_of_lt {n : Nat} (h : n < 256) : (UInt8.ofNat n).toNat = n := by rw [UInt8.toNat_ofNat']; omega
set_option maxRecDepth 100000 in
set_option maxHeartbeats 2000000 in
theorem stored_px (X B : Nat) (s : ByteArray) (most : Nat) (x : Px) (last : Bool) (a b : Im.St) (e : Int) (w : World) (h : XIs w X B s most x) (hp : x.pos ≤ 8 * s.size) (hs : s.size ≤ 281474976710656) (hm : most ≤ 140737488355328) (hlen : x.out.length ≤ most) (hB : B ≤ w.heap.size)
    (hG : Fin x b e ∨ (x.ok = true ∧ a.out = x.out ∧ GRes s.data.toList most (storedP s.data.toList a last ((x.pos + 7) / 8 * 8)) x.out b e)) :
    Calls Try.prog 47 #[.pointer (some ⟨X, 0, none⟩)] w fun o w' => o = .returned (.tuple #[]) ∧ (∃ x', XIs w' X B s most x' ∧ BlkL s.data.toList most last b e x.pos x' ∧ x'.pos ≤ 8 * s.size ∧ x'.out.length ≤ most) ∧ Grew X B w w' := by
  go_enter Try.func47, Try.ntmps47
  go_wp2_with fail
  go_loopg [6] ((x.pos + 7) / 8 * 8 - x.pos) (fun g v wr => ∃ p, p + g = (x.pos + 7) / 8 * 8 ∧ g < 8 ∧ XIs wr X B s most { x with pos := p } ∧ Fr (· = X) w wr)
  case atStart => exact ⟨x.pos, by omega, by omega, h, Fr.refl _ w⟩
  case round =>
    obtain ⟨p, hpg, hg8, hx, hf⟩ := hrel
    have c1 := hx.cells.2.1
    have f1 := hx.cells.2.2.2.2 1
    dsimp only at c1
    by_cases hg : gk = 0
    · subst hg
      have ep : p = (x.pos + 7) / 8 * 8 := by omega
      have hp8 : p ≤ 8 * s.size := by omega
      have q1 : (((p : Int) % 8) != 0) = false := by simp; omega
      have q2 : ((((p % 8 : Nat) : Int)) != 0) = false := by simp; omega
      rw [← ep] at hG
      have e16 : ((16 : Nat) : Int) = 16 := rfl
      have HN1 := num_px X B s most { x with pos := p } 16 wr hx hp8 (by omega) hs
      rw [e16] at HN1
      have l1 := Px.num_lt s.data.toList { x with pos := p } 16
      have p1 := Px.num_pos (s := s.data.toList) (x := { x with pos := p }) (n := 16) (by rw [blen]; exact hp8)
      have o1 := Px.num_out s.data.toList { x with pos := p } 16
      rw [blen] at p1
      rcases h1 : Px.num s.data.toList { x with pos := p } 16 with ⟨n, x1⟩
      rw [h1] at HN1 l1 p1 o1
      dsimp only at HN1 l1 p1 o1
      have HN2 := fun w1 (hx1 : XIs w1 X B s most x1) => num_px X B s most x1 16 w1 hx1 p1 (by omega) hs
      simp only [e16] at HN2
      clear e16
      have l2 := Px.num_lt s.data.toList x1 16
      have p2 := Px.num_pos (s := s.data.toList) (x := x1) (n := 16) (by rw [blen]; exact p1)
      have o2 := Px.num_out s.data.toList x1 16
      rw [blen] at p2
      rcases h2 : Px.num s.data.toList x1 16 with ⟨m, x2⟩
      rw [h2] at l2 p2 o2
      simp only [h2] at HN2
      dsimp only at HN2 l2 p2 o2
      have HW := fun b e w1 (hx1 : XIs w1 X B s most x2) => wrong_px X B s most x2 b e w1 hx1
      have l1' : n ≤ 65535 := Nat.le_of_lt_succ l1
      have l2' : m ≤ 65535 := Nat.le_of_lt_succ l2
      have eb : ((m : Int) == 65535 - (n : Int)) = decide ((m : Int) = 65535 - (n : Int)) := by rw [Bool.eq_iff_iff]; simp
      have HIN : InSt s.data.toList most last b e n (x2.wrong (decide ((m : Int) = 65535 - (n : Int))) 90) := by
        rcases hG with hG | ⟨hk, hao, hG⟩
        · have hf1 : Fin { x with pos := p } b e := hG.same rfl rfl rfl
          rw [Px.num_bad hf1.no] at h1
          cases h1
          rw [Px.num_bad hf1.no] at h2
          cases h2
          left
          rw [Px.wrong_bad hf1.no]; exact hf1
        · exact InSt.head (x := { x with pos := p }) hk hG hao h1 h2 rfl
      have p3 := (Px.wrong_pos x2 (decide ((m : Int) = 65535 - (n : Int))) 90).1
      have o3 := (Px.wrong_pos x2 (decide ((m : Int) = 65535 - (n : Int))) 90).2
      have p4 : (x2.wrong (decide ((m : Int) = 65535 - (n : Int))) 90).pos ≤ 8 * s.size := by rw [p3]; exact p2
      have o4 : (x2.wrong (decide ((m : Int) = 65535 - (n : Int))) 90).out.length ≤ most := by rw [o3, o2, o1]; exact hlen
      have lo3 : Hid (x.pos ≤ (x2.wrong (decide ((m : Int) = 65535 - (n : Int))) 90).pos) := Lib.hid (by
        have k1 := Px.num_ge s.data.toList { x with pos := p } 16
        have k2 := Px.num_ge s.data.toList x1 16
        rw [h1] at k1
        rw [h2] at k2
        dsimp only at k1 k2
        rw [p3]; omega)
      generalize hdd : decide ((m : Int) = 65535 - (n : Int)) = bb at *
      have HX3 := fun w1 (hx1 : XIs w1 X B s most (x2.wrong bb 90)) => Lib.hid hx1
      generalize hx3 : x2.wrong bb 90 = x3 at *
      have ew : IntKind.i64.wrap (65535 - (n : Int)) = 65535 - (n : Int) := IntWalk.i64_in _ (by omega)
      replace HIN := Lib.hid HIN
      replace p4 := Lib.hid p4
      replace o4 := Lib.hid o4
      replace hx3 := Lib.hid hx3
      clear h1 h2 l1 l2 l2' o1 o2 o3 p1 p2 p3 hG hpg ep hdd
      go_wp2_with (first | (go_at_call 46; refine HN1.mono ?_; rintro o w1 ⟨rfl, g1, hf1⟩; clear HN1) | (go_at_call 46; refine (HN2 w1 g1).mono ?_; rintro o w2 ⟨rfl, g2, hf2⟩; clear HN2))
      refine (HW bb 90 w2 g2).mono ?_
      rintro o w3 ⟨rfl, g3, hf3⟩
      rw [hx3.out] at g3
      have hF3 := Grew.of_fr (B := B) (((hf.trans hf1).trans hf2).trans hf3)
      clear HW HX3 ew eb g1 g2 hf1 hf2 hf3 c1 f1 hx q1 q2
      go_wp2_with fail
      go_loopw [4] (fun ii wr => ∃ (i : Nat) (y : Px), i ≤ n ∧ ii = .int .i64 i ∧ XIs wr X B s most y ∧ Hid (InSt s.data.toList most last b e (n - i) y) ∧ y.pos ≤ 8 * s.size ∧ y.out.length ≤ most ∧ Grew X B w wr ∧ x.pos ≤ y.pos) (fun ii _ => n - (intOf ii).toNat)
      case atStart => exact ⟨0, x3, by omega, rfl, g3, HIN, p4.out, o4.out, hF3, lo3.out⟩
      case round =>
        clear g3 hF3 HIN p4 o4 hx3 h hf hlen
        obtain ⟨i, y, hi, rfl, hy, HIN, hyp, hyo, hF, hlo⟩ := hrel
        replace hlo := Lib.hid hlo
        have HK := fun w1 (h1 : XIs w1 X B s most y) => Lib.hid (ok_px X B s most y w1 h1)
        by_cases hlt : i < n
        · have q1 : decide ((i : Int) < (n : Int)) = true := by simp; omega
          have q1' : decide (i < n) = true := by simp; omega
          cases hk : y.ok with
          | false =>
            rw [hk] at HK
            have HE : Hid (BlkL s.data.toList most last b e x.pos y) := Lib.hid (by
              rcases HIN.out with q | ⟨q, _⟩
              · exact BlkL.fin q
              · rw [hk] at q; cases q)
            clear hk HIN
            go_wp2_with (go_at_call 45; refine (HK _ hy).out.mono ?_; rintro o w' ⟨rfl, rfl⟩; clear HK)
            go_end0
            exact ⟨rfl, ⟨y, hy, HE.out, hyp, hyo⟩, hF⟩
          | true =>
            rw [hk] at HK
            have hb := InSt.byte (k := n - (i + 1)) (by rw [show n - (i + 1) + 1 = n - i by omega]; exact HIN.out)
            have HN1 := num_px X B s most y 8 wr hy hyp (by omega) hs
            rw [show ((8 : Nat) : Int) = 8 from rfl] at HN1
            have l1 := Px.num_lt s.data.toList y 8
            have p1 := Px.num_pos (s := s.data.toList) (x := y) (n := 8) (by rw [blen]; exact hyp)
            have lo1 := Px.num_ge s.data.toList y 8
            have o1 := Px.num_out s.data.toList y 8
            rw [blen] at p1
            rcases h1 : Px.num s.data.toList y 8 with ⟨c, y1⟩
            rw [h1] at HN1 l1 p1 o1 hb lo1
            dsimp only at HN1 l1 p1 o1 hb lo1
            have l1' : c ≤ 255 := Nat.le_of_lt_succ l1
            have ec := u8_of_lt l1
            have HT := fun w1 (h1 : XIs w1 X B s most y1) hB => tell_px X B s most y1 (UInt8.ofNat c) w1 h1 hm (by rw [o1]; omega) hB
            rw [ec] at HT
            have hb2 := Lib.hid hb
            have p2 := Px.tell_pos most y1 (UInt8.ofNat c)
            have o2 := Px.tell_most (most := most) (x := y1) (UInt8.ofNat c) (by rw [o1]; exact hyo)
            generalize Px.tell most y1 (UInt8.ofNat c) = y2 at *
            rw [← p2] at p1 lo1
            have lo2 : Hid (x.pos ≤ y2.pos) := Lib.hid (Nat.le_trans hlo.out lo1)
            clear lo1
            replace p2 := Lib.hid p2
            clear hb h1 o1 ec l1 HIN hk p2
            go_wp2_with (first | (go_at_call 45; refine (HK _ hy).out.mono ?_; rintro o w' ⟨rfl, rfl⟩; clear HK) | (go_at_call 46; refine HN1.mono ?_; rintro o w1 ⟨rfl, g1, hf1⟩; clear HN1))
            refine (HT w1 g1 (by have h1 := hF.size; have h2 := hf1.size; omega)).mono ?_
            rintro o w4 ⟨rfl, g4, hf4⟩
            have hF4 := (hF.then_fr hf1).trans hf4
            clear HT hF hf1 hf4 g1
            go_wp2_with fail
            go_roundw
            case rel => exact ⟨i + 1, y2, by omega, by go_num, g4, hb2, p1, o2, hF4, lo2.out⟩
            case measure => simp [intOf]; omega
        · obtain rfl : i = n := by omega
          have q1 : decide ((i : Int) < (i : Int)) = false := by simp
          have HE : Hid (BlkL s.data.toList most last b e x.pos y) := Lib.hid (by
            have := HIN.out
            rw [Nat.sub_self] at this
            exact ⟨this.ends, fun _ => hlo.out⟩)
          clear HIN HK
          go_wp2
          go_end0
          exact ⟨rfl, ⟨y, hy, HE.out, hyp, hyo⟩, hF⟩
    · have q1 : (((p : Int) % 8) != 0) = true := by simp; omega
      have hx2 := hx.setBit (p + 1)
      have hf2 := hf.setCell (p := ⟨X, 1, none⟩) (Or.inl rfl) (.int .i64 ((p + 1 : Nat) : Int))
      have e1 : ((p + 1 : Nat) : Int) = (p : Int) + 1 := by simp
      rw [e1] at hx2 hf2
      have hpb : p ≤ 9007199254740992 := by omega
      clear e1
      go_wp2_with fail
      go_roundg (gk - 1)
      case measure => omega
      case rel => exact ⟨p + 1, by omega, by omega, hx2, hf2⟩
end Go.Proofs.Ytcjcmlnbchmnnaa
/-! ### XElems -/
namespace Go.Proofs.Ytcjcmlnbchmnnaa
open Go.RowKit

theorem XIs.outs {w : World} {X B : Nat} {s : ByteArray} {most : Nat} {x : Px} (h : XIs w X B s most x) : (∃ a0 cap, w.cell? ⟨X, 2, none⟩ = some (.slice a0 x.out.length cap)) ∧ w.cell? ⟨X, 3, none⟩ = some (.int .i64 (most : Int)) := by
  obtain ⟨v, h1, h2⟩ := h
  obtain ⟨a0, cap, rfl, _⟩ := h2.slice
  exact ⟨⟨a0, cap, h1.out⟩, h1.most⟩
/-- what elements reads: the codes' structs, their trees, the tables of lengths and distances -/
structure ElEnv (w : World) (b4 b5 g1 g2 g3 g4 : Nat) (cl cd tl td : Value) (nl nd : List Nat) : Prop where
  box1 : w.heap[b4]? = some (.cells #[cl, tl] 76 (0, 0))
  box2 : w.heap[b5]? = some (.cells #[cd, td] 76 (0, 0))
  tree1 : TreeAt w tl nl
  tree2 : TreeAt w td nd
  r1 : w.rowIs g1 3 29 (fun i => .int .i64 ((Im.lenBase (i + 257) : Nat) : Int))
  r2 : w.rowIs g2 3 29 (fun i => .int .i64 ((Im.lenMore (i + 257) : Nat) : Int))
  r3 : w.rowIs g3 3 30 (fun i => .int .i64 ((Im.dstBase i : Nat) : Int))
  r4 : w.rowIs g4 3 30 (fun i => .int .i64 ((Im.dstMore i : Nat) : Int))
theorem at_below {w w' : World} {g : Nat} {o : Obj} (h : w.heap[g]? = some o) (hb : Below w.heap.size w w') : w'.heap[g]? = some o := by rw [hb.block g (Array.getElem?_eq_some_iff.1 h).1]; exact h
theorem rowIs_frS {S : Nat → Prop} {w w' : World} {g n : Nat} {f : Nat → Value} (h : w.rowIs g 3 n f) (hf : Fr S w w') (hS : ∀ k c, w.heap[k]? = some (.cells c 3 (0, 0)) → ¬ S k) : w'.rowIs g 3 n f := by
  have hg : ¬ S g := by obtain ⟨c, hc, _⟩ := h; exact hS g c hc
  exact h.of_block (hf.block g h.lt hg)
theorem ElEnv.frS {S : Nat → Prop} {w w' : World} {b4 b5 g1 g2 g3 g4 : Nat} {cl cd tl td : Value} {nl nd : List Nat} (h : ElEnv w b4 b5 g1 g2 g3 g4 cl cd tl td nl nd) (hf : Fr S w w') (hS : ∀ k c, w.heap[k]? = some (.cells c 3 (0, 0)) → ¬ S k) (hC : ∀ k c, w.heap[k]? = some (.cells c 76 (0, 0)) → ¬ S k) : ElEnv w' b4 b5 g1 g2 g3 g4 cl cd tl td nl nd :=
  ⟨(hf.block _ (lt_of_block h.box1) (hC _ _ h.box1)).trans h.box1, (hf.block _ (lt_of_block h.box2) (hC _ _ h.box2)).trans h.box2, h.tree1.frS hf hS, h.tree2.frS hf hS, rowIs_frS h.r1 hf hS, rowIs_frS h.r2 hf hS, rowIs_frS h.r3 hf hS, rowIs_frS h.r4 hf hS⟩
theorem ElEnv.grew {w w' : World} {X B B' : Nat} {s : ByteArray} {most : Nat} {x : Px} {b4 b5 g1 g2 g3 g4 : Nat} {cl cd tl td : Value} {nl nd : List Nat} (h : ElEnv w b4 b5 g1 g2 g3 g4 cl cd tl td nl nd) (hX : XIs w X B s most x) (hf : Grew X B' w w') : ElEnv w' b4 b5 g1 g2 g3 g4 cl cd tl td nl nd := by
  refine h.frS hf ?_ ?_
  · rintro k c hk (q | ⟨_, cur, q⟩)
    · exact hX.row_ne (by decide) hk q
    · rw [hk] at q; injection q with q; injection q with _ e; exact absurd e (by decide)
  · rintro k c hk (q | ⟨_, cur, q⟩)
    · exact hX.row_ne (by decide) hk q
    · rw [hk] at q; injection q with q; injection q with _ e; exact absurd e (by decide)
theorem ElEnv.fr {w w' : World} {X B : Nat} {s : ByteArray} {most : Nat} {x : Px} {b4 b5 g1 g2 g3 g4 : Nat} {cl cd tl td : Value} {nl nd : List Nat} (h : ElEnv w b4 b5 g1 g2 g3 g4 cl cd tl td nl nd) (hX : XIs w X B s most x) (hf : Fr (· = X) w w') : ElEnv w' b4 b5 g1 g2 g3 g4 cl cd tl td nl nd := h.grew hX (Grew.of_fr (B := 0) hf)
theorem ElEnv.cells {w : World} {b4 b5 g1 g2 g3 g4 : Nat} {cl cd tl td : Value} {nl nd : List Nat} (h : ElEnv w b4 b5 g1 g2 g3 g4 cl cd tl td nl nd) :
    w.cell? ⟨b4, 0, none⟩ = some cl ∧ w.cell? ⟨b4, 1, none⟩ = some tl ∧ w.cell? ⟨b5, 0, none⟩ = some cd ∧ w.cell? ⟨b5, 1, none⟩ = some td :=
  ⟨cell_of_row w b4 0 _ _ _ h.box1, cell_of_row w b4 1 _ _ _ h.box1, cell_of_row w b5 0 _ _ _ h.box2, cell_of_row w b5 1 _ _ _ h.box2⟩
set_option maxRecDepth 100000 in
set_option maxHeartbeats 4000000 in
theorem elements_px (X B : Nat) (s : ByteArray) (most : Nat) (x : Px) (last : Bool) (b : Im.St) (e : Int) (cl cd tl td : Value) (nl nd : List Nat) (w : World) (h : XIs w X B s most x) (ht1 : TreeAt w tl nl) (ht2 : TreeAt w td nd) (hs1 : Hm.Short nl) (hs2 : Hm.Short nd) (hl1 : nl.length ≤ 288) (hl2 : nd.length ≤ 288)
    (hp : x.pos ≤ 8 * s.size) (hs : s.size ≤ 281474976710656) (hm : most ≤ 140737488355328) (hlen : x.out.length ≤ most) (hB : B ≤ w.heap.size) (hG : InEl s.data.toList most last nl nd b e x) :
    Calls Try.prog 48 #[.pointer (some ⟨X, 0, none⟩), .agg #[cl, tl], .agg #[cd, td]] w fun o w' => o = .returned (.tuple #[]) ∧ (∃ x', XIs w' X B s most x' ∧ BlkL s.data.toList most last b e x.pos x' ∧ x'.pos ≤ 8 * s.size ∧ x'.out.length ≤ most) ∧ Grew X B w w' := by
  have HL := fun w => lengths_go w
  have HD := fun w => dists_go w
  have hb0 := ((Below.refl w.heap.size w).alloc (Nat.le_refl _) (.cells #[cl, tl] 76)).alloc (by simp) (.cells #[cd, td] 76)
  have hx1 : ((w.alloc (.cells #[cl, tl] 76)).alloc (.cells #[cd, td] 76)).heap[w.heap.size]? = some (.cells #[cl, tl] 76 (0, 0)) := by rw [Below.heap_alloc _ _ _ (by simp)]; exact heap_alloc_new w _
  have hx2 : ((w.alloc (.cells #[cl, tl] 76)).alloc (.cells #[cd, td] 76)).heap[w.heap.size + 1]? = some (.cells #[cd, td] 76 (0, 0)) := by
    have := heap_alloc_new (w.alloc (.cells #[cl, tl] 76)) (.cells #[cd, td] 76)
    rwa [show (w.alloc (.cells #[cl, tl] 76)).heap.size = w.heap.size + 1 by simp] at this
  go_enter Try.func48, Try.ntmps48
  go_wp2_with fail
  refine (HL _).mono ?_
  rintro o w1 ⟨g1, g2, rfl, r1, r2, _, _, hb1⟩
  go_wp2_with fail
  refine (HD _).mono ?_
  rintro o w2 ⟨g3, g4, rfl, r3, r4, _, _, hb2⟩
  generalize ((w.alloc (.cells #[cl, tl] 76)).alloc (.cells #[cd, td] 76)) = w0 at *
  have hE : ElEnv w2 w.heap.size (w.heap.size + 1) g1 g2 g3 g4 cl cd tl td nl nd :=
    ⟨at_below (at_below hx1 hb1) hb2, at_below (at_below hx2 hb1) hb2, ((ht1.below hb0).below hb1).below hb2, ((ht2.below hb0).below hb1).below hb2, r1.of_block (hb2.block g1 r1.lt), r2.of_block (hb2.block g2 r2.lt), r3, r4⟩
  have hX2 := ((h.below hb0).below hb1).below hb2
  have hF2 : Grew X B w w2 := Grew.of_fr (Fr.of_below (belThen (belThen hb0 hb1) hb2))
  clear HL HD hb0 hb1 hb2 hx1 hx2 r1 r2 r3 r4 h ht1 ht2
  replace hB := Lib.hid hB
  generalize hb4 : w.heap.size + 1 = b5 at *
  replace hb4 := Lib.hid hb4
  generalize hb5 : w.heap.size = b4 at *
  replace hb5 := Lib.hid hb5
  replace hG := Lib.hid hG
  go_wp2_with fail
  go_loopg [10] (8 * s.size + 1) (fun g v wr => ∃ y, XIs wr X B s most y ∧ Hid (InEl s.data.toList most last nl nd b e y) ∧ y.pos ≤ 8 * s.size ∧ y.out.length ≤ most ∧ Grew X B w wr ∧ ElEnv wr b4 b5 g1 g2 g3 g4 cl cd tl td nl nd ∧ (y.ok = true → 8 * s.size < g + y.pos) ∧ Hid (y.ok = true → x.pos ≤ y.pos))
  case atStart => exact ⟨x, hX2, hG, hp, hlen, hF2, hE, fun _ => by omega, Lib.hid fun _ => Nat.le_refl _⟩
  case round =>
    clear hX2 hG hp hlen hF2 hE
    obtain ⟨y, hy, HIN, hyp, hyo, hF, hE, hg, hlo⟩ := hrel
    have HK := ok_px X B s most y wr hy
    cases hk : y.ok with
    | false =>
      rw [hk] at HK
      have HE : Hid (BlkL s.data.toList most last b e x.pos y) := Lib.hid (by
        rcases HIN.out with q | ⟨a, q⟩
        · exact BlkL.fin q
        · have := q.ok; rw [hk] at this; cases this)
      clear hk HIN hE hg
      go_wp2_with (go_at_call 45; refine HK.mono ?_; rintro o w' ⟨rfl, rfl⟩; clear HK)
      go_end0
      exact ⟨rfl, ⟨y, hy, HE.out, hyp, hyo⟩, hF⟩
    | true =>
      rw [hk] at HK
      obtain ⟨a, hA⟩ : ∃ a, ElAt s.data.toList most last nl nd b e y a := by
        rcases HIN.out with q | q
        · have := q.no; rw [hk] at this; cases this
        · exact q
      have hg' := hg hk
      obtain ⟨c40, c41, c50, c51⟩ := hE.cells
      have HS := sym_px X B s most y cl tl nl wr hy hE.tree1 hs1 hl1 hyp hs
      unfold SymPost at HS
      clear HIN hg
      cases hx : Im.symP nl s.data.toList y.pos with
      | error e' =>
        obtain ⟨q1, q2⟩ := hA.symErr hx
        have q3 := (Px.sym_no hk hx).2.2.2
        have q4 := (Px.sym_no hk hx).2.2.1
        rw [q1] at HS
        generalize (Px.sym s.data.toList nl y).2 = y1 at *
        have HK1 := fun w1 (h1 : XIs w1 X B s most y1) => ok_px X B s most y1 w1 h1
        rw [q2.no] at HK1
        have HE : Hid (BlkL s.data.toList most last b e x.pos y1) := Lib.hid (BlkL.fin q2)
        have o1 : y1.out.length ≤ most := by rw [q4]; exact hyo
        replace q4 := Lib.hid q4
        clear hx q1 q2 hA hk hE hg'
        go_wp2_with (first | (go_at_call 45; refine HK.mono ?_; rintro o w' ⟨rfl, rfl⟩; clear HK) | (go_at_call 66; refine HS.mono ?_; rintro o w1 ⟨rfl, h1, hf1⟩; clear HS) | (go_at_call 45; refine (HK1 _ h1).mono ?_; rintro o w' ⟨rfl, rfl⟩; clear HK1))
        exact bodyPost_ret (results_none rfl _ _ _) rfl ⟨rfl, ⟨y1, h1, HE.out, by omega, o1⟩, hF.then_fr hf1⟩
      | ok vp =>
        obtain ⟨v, p⟩ := vp
        obtain ⟨v1, v2, v3, _⟩ := Im.symP_ok hx
        rw [blen] at v3
        rw [Px.sym_ok hk hx] at HS
        dsimp only at HS
        have hk1 : ({ y with pos := p } : Px).ok = true := hk
        have HK1 := fun w1 (h1 : XIs w1 X B s most { y with pos := p }) => ok_px X B s most { y with pos := p } w1 h1
        rw [hk1] at HK1
        by_cases c1 : v < 256
        · have HIN := hA.byte hx c1
          have HT := fun w1 (h1 : XIs w1 X B s most { y with pos := p }) hB => tell_px X B s most { y with pos := p } (UInt8.ofNat v) w1 h1 hm (by show y.out.length ≤ _; omega) hB
          rw [u8_of_lt c1] at HT
          have p2 := Px.tell_pos most { y with pos := p } (UInt8.ofNat v)
          have o2 := Px.tell_most (most := most) (x := { y with pos := p }) (UInt8.ofNat v) hyo
          generalize Px.tell most { y with pos := p } (UInt8.ofNat v) = y2 at *
          dsimp only at p2
          have p3 : y2.pos ≤ 8 * s.size := by rw [p2]; exact v3
          have hg2 : Hid (8 * s.size < gk - 1 + y2.pos) := Lib.hid (by rw [p2]; omega)
          have hl2 : Hid (x.pos ≤ y2.pos) := Lib.hid (by rw [p2]; exact Nat.le_trans (hlo.out hk) (Nat.le_of_lt v2))
          replace HIN := Lib.hid HIN
          replace hE := Lib.hid hE
          have q1 : ((v : Int) == 256) = false := by simp; omega
          have q2 : decide ((v : Int) < 256) = true := by simp; omega
          clear hx hA hk hk1 p2
          go_wp2_with (first | (go_at_call 45; refine HK.mono ?_; rintro o w' ⟨rfl, rfl⟩; clear HK) | (go_at_call 66; refine HS.mono ?_; rintro o w1 ⟨rfl, h1, hf1⟩; clear HS) | (go_at_call 45; refine (HK1 _ h1).mono ?_; rintro o w' ⟨rfl, rfl⟩; clear HK1))
          refine (HT w1 h1 (by have a0 := hb5.out; have a3 := hB.out; have a1 := hF.size; have a2 := hf1.size; omega)).mono ?_
          rintro o w2 ⟨rfl, h2, hf2⟩
          have hE2 := (hE.out.fr hy hf1).grew h1 hf2
          have hF2 := (hF.then_fr hf1).trans hf2
          clear HT h1 hf1 hf2 hE hF
          go_wp2_with fail
          go_roundg (gk - 1)
          case measure => omega
          case rel => exact ⟨y2, h2, HIN, p3, o2, hF2, hE2, fun _ => hg2.out, Lib.hid fun _ => hl2.out⟩
        by_cases c2 : v = 256
        · subst c2
          have HE : Hid (BlkL s.data.toList most last b e x.pos { y with pos := p }) := Lib.hid ⟨hA.ends hx, fun _ => Nat.le_trans (hlo.out hk) (Nat.le_of_lt v2)⟩
          clear hx hA hk hk1 hE hg' v1
          rw [show ((256 : Nat) : Int) = 256 from rfl] at HS
          go_wp2_with (first | (go_at_call 45; refine HK.mono ?_; rintro o w' ⟨rfl, rfl⟩; clear HK) | (go_at_call 66; refine HS.mono ?_; rintro o w1 ⟨rfl, h1, hf1⟩; clear HS) | (go_at_call 45; refine (HK1 _ h1).mono ?_; rintro o w' ⟨rfl, rfl⟩; clear HK1))
          exact bodyPost_ret (results_none rfl _ _ _) rfl ⟨rfl, ⟨_, h1, HE.out, v3, hyo⟩, hF.then_fr hf1⟩
        have q1 : ((v : Int) == 256) = false := by simp; omega
        have q2 : decide ((v : Int) < 256) = false := by simp; omega
        have q2' : decide (v < 256) = false := by simp; omega
        by_cases c3 : 285 < v
        · have HE : Hid (BlkL s.data.toList most last b e x.pos { y with pos := p, e := 91 }) := Lib.hid (BlkL.fin (hA.far hx c3))
          have HW := fun w1 (h1 : XIs w1 X B s most { y with pos := p }) => wrong_px X B s most { y with pos := p } false 91 w1 h1
          rw [Px.wrong_no hk1] at HW
          have HK2 := fun w1 (h1 : XIs w1 X B s most { y with pos := p, e := 91 }) => ok_px X B s most { y with pos := p, e := 91 } w1 h1
          rw [(hA.far hx c3).no] at HK2
          have q3 : decide ((v : Int) ≤ 285) = false := by simp; omega
          clear hx hA hk hk1 hE hg'
          go_wp2_with (first | (go_at_call 45; refine HK.mono ?_; rintro o w' ⟨rfl, rfl⟩; clear HK) | (go_at_call 66; refine HS.mono ?_; rintro o w1 ⟨rfl, h1, hf1⟩; clear HS) | (go_at_call 45; refine (HK1 _ h1).mono ?_; rintro o w' ⟨rfl, rfl⟩; clear HK1) | (go_at_call 50; refine (HW _ h1).mono ?_; rintro o w2 ⟨rfl, h2, hf2⟩; clear HW) | (go_at_call 45; refine (HK2 _ h2).mono ?_; rintro o w' ⟨rfl, rfl⟩; clear HK2))
          exact bodyPost_ret (results_none rfl _ _ _) rfl ⟨rfl, ⟨_, h2, HE.out, v3, hyo⟩, (hF.then_fr hf1).then_fr hf2⟩
        have hv2 : v ≤ 285 := by omega
        have hv1 : 256 < v := by omega
        have HW := fun w1 (h1 : XIs w1 X B s most { y with pos := p }) => wrong_px X B s most { y with pos := p } true 91 w1 h1
        simp only [Px.wrong_yes] at HW
        have hmo := Im.lenMore_le v hv2
        have hlb := Im.lenBase_le v hv1 hv2
        have HN := fun w1 (h1 : XIs w1 X B s most { y with pos := p }) => num_px X B s most { y with pos := p } (Im.lenMore v) w1 h1 v3 (by omega) hs
        have kl := Px.num_lt s.data.toList { y with pos := p } (Im.lenMore v)
        have kp := Px.num_pos (s := s.data.toList) (x := { y with pos := p }) (n := Im.lenMore v) (by rw [blen]; exact v3)
        have ko := Px.num_out s.data.toList { y with pos := p } (Im.lenMore v)
        rw [blen] at kp
        rcases h2 : Px.num s.data.toList { y with pos := p } (Im.lenMore v) with ⟨k, x2⟩
        rw [h2] at kl kp ko
        simp only [h2] at HN
        dsimp only at HN kl kp ko
        have kl' : k < 32 := Nat.lt_of_lt_of_le kl (Nat.pow_le_pow_right (n := 2) (j := 5) (by omega) hmo)
        have HS2 := fun w1 (h1 : XIs w1 X B s most x2) (ht : TreeAt w1 td nd) => sym_px X B s most x2 cd td nd w1 h1 ht hs2 hl2 kp hs
        unfold SymPost at HS2
        rcases h3 : Px.sym s.data.toList nd x2 with ⟨t, x3⟩
        simp only [h3] at HS2
        have HW2 := fun b w1 (h1 : XIs w1 X B s most x3) => wrong_px X B s most x3 b 91 w1 h1
        have hD := hA.dists hx hv1 hv2 h2 h3 rfl
        generalize hx4 : x3.wrong (decide (t ≤ 29)) 91 = x4 at *
        replace HW2 := HW2 (decide (t ≤ 29))
        rw [hx4] at HW2
        have HK4 := fun w1 (h1 : XIs w1 X B s most x4) => ok_px X B s most x4 w1 h1
        have tb : decide ((t : Int) ≤ 29) = decide (t ≤ 29) := by simp; omega
        have q3 : decide ((v : Int) ≤ 285) = true := by simp; omega
        have a1 : IntKind.i64.wrap ((v : Int) - 257) = ((v - 257 : Nat) : Int) := by rw [IntWalk.i64_in _ (by omega)]; omega
        have i1 : v - 257 < 29 := by omega
        have i2 : (v : Int) - 257 < 29 := by omega
        have i3 : 0 ≤ (v : Int) - 257 := by omega
        generalize hbb : decide (t ≤ 29) = bb at *
        replace hbb := Lib.hid hbb
        have ev : v - 257 + 257 = v := by omega
        replace h2 := Lib.hid h2
        replace h3 := Lib.hid h3
        replace hx4 := Lib.hid hx4
        replace hD := Lib.hid hD
        replace hA := Lib.hid hA
        replace ko := Lib.hid ko
        replace hk := Lib.hid hk
        replace hk1 := Lib.hid hk1
        replace hx := Lib.hid hx
        replace ev := Lib.hid ev
        clear kl
        go_wp2_with (first | (go_at_call 45; refine HK.mono ?_; rintro o w' ⟨rfl, rfl⟩; clear HK) | (go_at_call 66; refine HS.mono ?_; rintro o w1 ⟨rfl, h1, hf1⟩; clear HS) | (go_at_call 45; refine (HK1 _ h1).mono ?_; rintro o w' ⟨rfl, rfl⟩) | (go_at_call 50; refine (HW _ h1).mono ?_; rintro o w3 ⟨rfl, g3', hf3⟩; clear HW; have hE3 := ((hE.fr hy hf1).fr h1 hf3); have hF3 := (hF.then_fr hf1).then_fr hf3; clear h1 hf1 hf3 c40 c41 c50 c51) | (go_at_call 45; refine (HK1 _ g3').mono ?_; rintro o w' ⟨rfl, rfl⟩; clear HK1; have e1 := hE3.r1.cell (i := v - 257) i1; have e2 := hE3.r2.cell (i := v - 257) i1; simp only [ev.out] at e1 e2))
        have hlb1 := hlb.1
        have hlb2 := hlb.2
        clear hlb c1 c2 c3 q1 q2 q2' q3 a1 i1 i2 i3
        go_wp2_with (first | (go_at_call 46; refine (HN _ g3').mono ?_; rintro o w4 ⟨rfl, g4', hf4⟩; clear HN e1 e2; have hE4 := hE3.fr g3' hf4; have hF4 := hF3.then_fr hf4; clear hE3 hF3 hf4 g3'; obtain ⟨_, _, c50, c51⟩ := hE4.cells) | (go_at_call 66; refine (HS2 _ g4' hE4.tree2).mono ?_; rintro o w5 ⟨rfl, g5', hf5⟩; clear HS2 c50 c51; have hE5 := hE4.fr g4' hf5; have hF5 := hF4.then_fr hf5; clear hE4 hF4 hf5 g4') | (go_at_call 50; refine (HW2 _ g5').mono ?_; rintro o w6 ⟨rfl, g6, hf6⟩; clear HW2; have hE6 := hE5.fr g5' hf6; have hF6 := hF5.then_fr hf6; clear hE5 hF5 hf6 g5'))
        refine (HK4 _ g6).mono ?_
        rintro o w' ⟨rfl, rfl⟩
        have hsy := (Px.sym_pos (s := s.data.toList) (ns := nd) (x := x2) (by rw [blen]; exact kp))
        rw [h3.out, blen] at hsy
        have hp4 : x4.pos ≤ 8 * s.size := by rw [← hx4.out, (Px.wrong_pos _ _ _).1]; exact hsy
        rcases hD.out with hfin | ⟨hk4, ht, ho4, hpp, _, hres⟩
        · rw [hfin.no]
          have HE : Hid (BlkL s.data.toList most last b e x.pos x4) := Lib.hid (BlkL.fin hfin)
          have ho4 : x4.out.length ≤ most := by
            rw [← hx4.out, (Px.wrong_pos _ _ _).2]
            have := Px.sym_out s.data.toList nd x2
            rw [h3.out] at this
            rw [this, ko.out]; exact hyo
          clear HK4 hE6
          go_wp2_with fail
          exact bodyPost_ret (results_none rfl _ _ _) rfl ⟨rfl, ⟨x4, g6, HE.out, hp4, ho4⟩, hF6⟩
        · rw [hk4]
          have hdm := Im.dstMore_le t ht
          obtain ⟨hdb1, hdb2⟩ := Im.dstBase_le t ht
          have HN5 := num_px X B s most x4 (Im.dstMore t) w6 g6 hp4 (by omega) hs
          have ml := Px.num_lt s.data.toList x4 (Im.dstMore t)
          have mp := Px.num_pos (s := s.data.toList) (x := x4) (n := Im.dstMore t) (by rw [blen]; exact hp4)
          have mo := Px.num_out s.data.toList x4 (Im.dstMore t)
          rw [blen] at mp
          rcases h5 : Px.num s.data.toList x4 (Im.dstMore t) with ⟨k2, x5⟩
          rw [h5] at ml mp mo HN5
          dsimp only at HN5 ml mp mo
          have ml' : k2 < 8192 := Nat.lt_of_lt_of_le ml (Nat.pow_le_pow_right (n := 2) (j := 13) (by omega) hdm)
          have hC := hA.out.copies hk4 ht ho4 hres h5 rfl rfl
          have HW6 := fun b w1 (h1 : XIs w1 X B s most x5) => wrong_px X B s most x5 b 92 w1 h1
          have en : ((Im.lenBase v : Nat) : Int) + (k : Int) = ((Im.lenBase v + k : Nat) : Int) := by simp
          have ed : ((Im.dstBase t : Nat) : Int) + (k2 : Int) = ((Im.dstBase t + k2 : Nat) : Int) := by simp
          have hn1 : 3 ≤ Im.lenBase v + k := by omega
          have hn2 : Im.lenBase v + k ≤ 300 := by omega
          have hd1 : 1 ≤ Im.dstBase t + k2 := by omega
          have hd2 : Im.dstBase t + k2 ≤ 40000 := by omega
          generalize hnn : Im.lenBase v + k = n at *
          generalize hdd : Im.dstBase t + k2 = d at *
          generalize hx6 : x5.wrong (decide (d ≤ x5.out.length)) 92 = x6 at *
          generalize hx7 : x6.wrong (decide (x6.out.length + n ≤ most)) 93 = x7 at *
          have e3 := hE6.r3.cell (i := t) (by omega)
          have e4 := hE6.r4.cell (i := t) (by omega)
          have b6 : decide (((Im.dstBase t : Nat) : Int) + (k2 : Int) ≤ (x5.out.length : Int)) = decide (d ≤ x5.out.length) := by rw [ed]; simp
          replace HW6 := HW6 (decide (d ≤ x5.out.length))
          rw [hx6] at HW6
          generalize hb6 : decide (d ≤ x5.out.length) = bb6 at *
          replace hb6 := Lib.hid hb6
          replace hnn := Lib.hid hnn
          replace hdd := Lib.hid hdd
          replace hx6 := Lib.hid hx6
          replace hx7 := Lib.hid hx7
          replace hC := Lib.hid hC
          replace h5 := Lib.hid h5
          replace mo := Lib.hid mo
          replace hres := Lib.hid hres
          replace ho4 := Lib.hid ho4
          replace hk4 := Lib.hid hk4
          have EN := Lib.hid en
          have ED := Lib.hid ed
          clear HK4 hD ml en ed tb
          go_wp2_with (first | (go_at_call 46; refine HN5.mono ?_; rintro o w7 ⟨rfl, g7, hf7⟩; clear HN5 e3 e4; have hE7 := hE6.fr g6 hf7; have hF7 := hF6.then_fr hf7; obtain ⟨⟨ao, cap, c2⟩, _⟩ := g7.outs) | (go_at_call 50; refine (HW6 _ g7).mono ?_; rintro o w8 ⟨rfl, g8, hf8⟩; clear HW6 c2; have hE8 := hE7.fr g7 hf8; have hF8 := hF7.then_fr hf8))
          rw [EN.out, ED.out]
          have hW7 := Lib.hid (wrong_px X B s most x6 (decide (x6.out.length + n ≤ most)) 93)
          rw [hx7.out] at hW7
          have o6 : x6.out = y.out := by rw [← hx6.out, (Px.wrong_pos _ _ _).2, mo.out, ho4.out]
          have o7 : x7.out = y.out := by rw [← hx7.out, (Px.wrong_pos _ _ _).2, o6]
          have p7 : x7.pos ≤ 8 * s.size := by rw [← hx7.out, (Px.wrong_pos _ _ _).1, ← hx6.out, (Px.wrong_pos _ _ _).1]; exact mp
          have hl6 : x6.out.length ≤ 140737488355328 := by rw [o6]; omega
          have a7 : IntKind.i64.wrap ((x6.out.length : Int) + (n : Int)) = (x6.out.length : Int) + (n : Int) := IntWalk.i64_in _ (by omega)
          have b7 : decide ((x6.out.length : Int) + (n : Int) ≤ (most : Int)) = decide (x6.out.length + n ≤ most) := by simp; omega
          generalize decide (x6.out.length + n ≤ most) = bb7 at *
          obtain ⟨⟨ao, cap, c2⟩, c3⟩ := g8.outs
          have g8d := g8.drew
          have hE8d : ElEnv w8.drew b4 b5 g1 g2 g3 g4 cl cd tl td nl nd := hE8.fr g8 ((Fr.refl _ _).drew)
          have hF8d := hF8.then_fr ((Fr.refl (· = X) w8).drew)
          replace o6 := Lib.hid o6
          replace o7 := Lib.hid o7
          clear hE6 hE7 hF6 hF7 g6 g7 hf7 hf8 hF8 hE8 b6
          go_still_tail 13, (by kernel_rfl)
          change wpList _ _ _ _ _ w8.drew
          generalize w8.drew = wd at *
          clear c2 c3 g8 hl6 a7 b7
          go_wp2_with (go_at_call 50; refine (hW7.out _ g8d).mono ?_; rintro o w9 ⟨rfl, g9, hf9⟩; clear hW7)
          have hE9 := hE8d.fr g8d hf9
          have hF9 := hF8d.then_fr hf9
          have g9' : XIs w9 X B s most { x7 with out := Im.copyP x7.out d 0 } := g9
          clear hE8d hF8d hf9 g8d g9
          obtain ⟨wo, rfl⟩ : ∃ wo : World, wo = wr := ⟨_, rfl⟩
          go_loopw [14] (fun ii wr => ∃ i : Nat, i ≤ n ∧ ii = .int .i64 i ∧ (x7.ok = false → i = 0) ∧ XIs wr X B s most { x7 with out := Im.copyP x7.out d i } ∧ Grew X B w wr ∧ ElEnv wr b4 b5 g1 g2 g3 g4 cl cd tl td nl nd) (fun ii _ => n - (intOf ii).toNat)
          case atStart => exact ⟨0, by omega, rfl, fun _ => rfl, g9', hF9, hE9⟩
          case round =>
            clear g9' hF9 hE9
            obtain ⟨i, hi, rfl, hi0, hz, hFz, hEz⟩ := hrel
            rcases hC.out with hfin | ⟨hk7, hdl, hnm, hpp7, _, hin⟩
            · obtain rfl := hi0 hfin.no
              have hz7 : XIs wr X B s most x7 := hz
              have HKz := ok_px X B s most x7 wr hz7
              rw [hfin.no] at HKz
              have HIN : Hid (InEl s.data.toList most last nl nd b e x7) := Lib.hid (Or.inl hfin)
              have hno : Hid (x7.ok = true → 8 * s.size < gk - 1 + x7.pos) := Lib.hid (fun q => by rw [hfin.no] at q; cases q)
              have hl7 : Hid (x7.ok = true → x.pos ≤ x7.pos) := Lib.hid (fun q => by rw [hfin.no] at q; cases q)
              have o8 : x7.out.length ≤ most := by rw [o7.out]; exact hyo
              have q1 : decide ((0 : Int) < (n : Int)) = true := by simp; omega
              have q1' : decide (0 < n) = true := by simp; omega
              clear hi0 hz hfin
              go_wp2_with (go_at_call 45; refine HKz.mono ?_; rintro o w' ⟨rfl, rfl⟩; clear HKz)
              go_roundg (gk - 1)
              case measure => omega
              case rel => exact ⟨x7, hz7, HIN, p7, o8, hFz, hEz, hno.out, hl7⟩
            · have hzk : ({ x7 with out := Im.copyP x7.out d i } : Px).ok = true := hk7
              have HKz := ok_px X B s most { x7 with out := Im.copyP x7.out d i } wr hz
              rw [hzk] at HKz
              clear hi0 hzk
              by_cases hlt : i < n
              · have q1 : decide ((i : Int) < (n : Int)) = true := by simp; omega
                have q1' : decide (i < n) = true := by simp; omega
                have hll := Im.copyP_length x7.out d i
                have hnx : Hid (Im.copyP x7.out d (i + 1) = Im.copyP x7.out d i ++ [(Im.copyP x7.out d i).getD ((Im.copyP x7.out d i).length - d) 0]) := Lib.hid rfl
                obtain ⟨i0, hi', hz0, hz1, hz2⟩ := info_parts info_u8
                obtain ⟨u, hX, hO⟩ := hz
                dsimp only at hO
                have hml : (Im.copyP x7.out d i).length < most := by rw [hll]; omega
                have hdl2 : d ≤ (Im.copyP x7.out d i).length := by rw [hll]; omega
                generalize Im.copyP x7.out d i = l at *
                obtain ⟨g, cap2, rfl, hc⟩ := hO.at (l.length - d) (by omega)
                rw [show l[l.length - d]'(by omega) = l.getD (l.length - d) 0 by rw [List.getD_eq_getElem?_getD, List.getElem?_eq_getElem (by omega)]; rfl] at hc
                generalize l.getD (l.length - d) 0 = cb at *
                have k2' := hX.out
                dsimp only [Px.rx] at k2'
                have f2 := hX.frozen 2
                have a8 : IntKind.i64.wrap ((l.length : Int) - (d : Int)) = ((l.length - d : Nat) : Int) := by rw [IntWalk.i64_in _ (by omega)]; omega
                have a9 : ((l.length - d : Nat) : Int) < (l.length : Int) := by omega
                have a9' : l.length - d < l.length := by omega
                have hX1 : XAt ((wr.alloc (.cells #[.int .u8 (cb.toNat : Int)] 5)).drew) X (Px.rx { x7 with out := l } s (.slice (some ⟨g, 0, none⟩) l.length cap2) most) := (hX.alloc _).drew
                have hO1 : OutAt ((wr.alloc (.cells #[.int .u8 (cb.toNat : Int)] 5)).drew) B (.slice (some ⟨g, 0, none⟩) l.length cap2) l := hO.below ((Below.refl _ _).alloc (Nat.le_refl _) _).drew
                have hF1 : Grew X B wr ((wr.alloc (.cells #[.int .u8 (cb.toNat : Int)] 5)).drew) := Grew.of_fr (Fr.of_below ((Below.refl _ _).alloc (Nat.le_refl _) _).drew)
                have hBw : Hid (B ≤ wr.heap.size) := Lib.hid (by have b1 := hB.out; have b2 := hb5.out; have b3 := hFz.size; omega)
                have hzx : XIs wr X B s most { x7 with out := l } := ⟨_, hX, hO⟩
                have hXlt := hX.lt
                have k2a : ((wr.alloc (.cells #[.int .u8 (cb.toNat : Int)] 5)).drew).cell? ⟨X, 2, none⟩ = some (.slice (some ⟨g, 0, none⟩) l.length cap2) := hX1.out
                have k2b : (wr.alloc (.cells #[.int .u8 (cb.toNat : Int)] 5)).cell? ⟨X, 2, none⟩ = some (.slice (some ⟨g, 0, none⟩) l.length cap2) := hX1.out
                replace hll := Lib.hid hll
                replace hml := Lib.hid hml
                generalize hq : l.length - d = q at *
                replace hq := Lib.hid hq
                clear hpp7 hnm hdl hdl2 hX hO
                go_wp2_with (go_at_call 45; refine HKz.mono ?_; rintro o w' ⟨rfl, rfl⟩; clear HKz)
                go_region_law ((refine step_append_own rfl (.tmp 120) (.tmp 134) 23 rfl B 5 i0 (.int .u8 0) 1 1 Try.underlying23 hi' hz0 hz1 hz2 rfl (by decide) (.slice (some ⟨g, 0, none⟩) l.length cap2) l.length (bvals l) (by rfl) ⟨wr.heap.size, 0, none⟩ 1 1 (bvals [cb]) (by rfl) hO1 rfl (new_bytes _ _ _ _ rfl) (bvals_one' _) (by have b1 := hml.out; unfold maxLen; omega) (by have b1 := hml.out; omega) (by have b1 := hBw.out; simp; omega) ?_; intro v' w2 hown' hgrow; have ho1 : OutAt w2 B v' (l ++ [cb]) := (by unfold OutAt; rw [bvals_append, List.length_append]; exact hown'); have HEND := Lib.hid (XIs.grownOut hX1 hO1 hgrow ho1); have hg2 := (hF1.grown hO1 hgrow).then_fr ((Fr.refl (· = X) w2).setCell (p := ⟨X, 2, none⟩) (Or.inl rfl) v'); have hR1 := hX1.grown hO1 hgrow; obtain ⟨a2, cap3, ev, _⟩ := ho1.slice; clear hown' hgrow; generalize (l ++ [cb]).length = n1 at ev; subst ev; have k2'' := hR1.out; have f2'' := hR1.frozen 2; clear ho1 hR1))
                all_goals
                  go_wp2_with fail
                  go_roundw
                  case rel => exact ⟨i + 1, by omega, by go_num, (fun q => by rw [hk7] at q; cases q), by rw [hnx.out]; exact HEND.out, hFz.trans hg2, hEz.grew hzx hg2⟩
                  case measure => simp [intOf]; omega
              · obtain rfl : i = n := by omega
                have hno : Hid (8 * s.size < gk - 1 + x7.pos) := Lib.hid (by omega)
                have hl7 : Hid (x.pos ≤ x7.pos) := Lib.hid (by have := hlo.out hk.out; omega)
                have o8 : (Im.copyP x7.out d i).length ≤ most := by rw [Im.copyP_length]; omega
                have q1 : decide ((i : Int) < (i : Int)) = false := by simp
                have q1' : decide (i < i) = false := by simp
                replace hin := Lib.hid hin
                clear HKz hlt hnm hdl hpp7
                go_wp2_with fail
                go_roundg (gk - 1)
                case measure => omega
                case rel => exact ⟨_, hz, hin, p7, o8, hFz, hEz, fun _ => hno.out, Lib.hid fun _ => hl7.out⟩
end Go.Proofs.Ytcjcmlnbchmnnaa
