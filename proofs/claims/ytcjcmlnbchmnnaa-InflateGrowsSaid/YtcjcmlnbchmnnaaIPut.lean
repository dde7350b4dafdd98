/- farrierlaw09's row: put, byte, begin: their contracts. -/
import Derived.Test.YtcjcmlnbchmnnaaImRow
import Derived.Test.YtcjcmlnbchmnnaaIApp
import Derived.BigRegion
namespace Go.Proofs.Ytcjcmlnbchmnnaa
open Go.RowKit

/-- a row's two fields -/
def RowCells (w : World) (P : Nat) (v : Value) (n : Nat) : Prop := w.heap[P]? = some (.cells #[v, .int .i64 (n : Int)] 54 (0, 0))
/-- a row that the call made, and its bits -/
structure RowAt (w0 w : World) (P : Nat) (bits : List Nat) : Prop where
  row : ∃ v l, RowCells w P v bits.length ∧ Made w0 w v l ∧ Im.Bytes l bits
  own : w0.heap.size ≤ P
/-- .. there is room for one more -/
structure RoomAt (w0 w : World) (P : Nat) (bits : List Nat) : Prop where
  row : ∃ g cap l, RowCells w P (.slice (some ⟨g, 0, none⟩) l.length cap) bits.length ∧ Made w0 w (.slice (some ⟨g, 0, none⟩) l.length cap) l ∧ Im.Room l bits
  own : w0.heap.size ≤ P
theorem RowCells.ne {w : World} {P n k : Nat} {v : Value} (h : RowCells w P v n) (hk : ByteRow w k) : P ≠ k := by
  rintro rfl
  obtain ⟨cur, hc⟩ := hk
  unfold RowCells at h
  rw [h] at hc
  injection hc with hc
  injection hc with _ hc
  exact absurd hc (by decide)
theorem RowCells.c0 {w : World} {P n : Nat} {v : Value} (h : RowCells w P v n) : w.cell? ⟨P, 0, none⟩ = some v := cell_of_row _ _ _ _ _ _ h
theorem RowCells.c1 {w : World} {P n : Nat} {v : Value} (h : RowCells w P v n) : w.cell? ⟨P, 1, none⟩ = some (.int .i64 (n : Int)) := cell_of_row _ _ _ _ _ _ h
theorem RowCells.fz {w : World} {P n : Nat} {v : Value} (h : RowCells w P v n) (i : Nat) : w.frozen? ⟨P, i, none⟩ = false := frozen_of_row _ _ _ _ _ h
theorem RowCells.lt {w : World} {P n : Nat} {v : Value} (h : RowCells w P v n) : P < w.heap.size := lt_of_block h
theorem RowCells.grown {w w' : World} {P n B : Nat} {v u : Value} {l : List UInt8} (h : RowCells w P v n) (ho : OutAt w B u l) (g : w.grownBy w' u.ownBlock) : RowCells w' P v n := by
  unfold RowCells
  rw [g.block P h.lt (fun e => h.ne (ho.row P e.symm).2 rfl)]
  exact h
theorem RowCells.below {w w' : World} {P n : Nat} {v : Value} (h : RowCells w P v n) (hb : Below w.heap.size w w') : RowCells w' P v n := by unfold RowCells; rw [hb.block P h.lt]; exact h
theorem RowCells.set0 {w : World} {P n : Nat} {v : Value} (h : RowCells w P v n) (u : Value) : RowCells (w.setCell ⟨P, 0, none⟩ u) P u n := heap_setCell_same w P 0 _ _ u h
theorem RowCells.set1 {w : World} {P n : Nat} {v : Value} (h : RowCells w P v n) (m : Nat) : RowCells (w.setCell ⟨P, 1, none⟩ (.int .i64 (m : Int))) P v m := heap_setCell_same w P 1 _ _ _ h
theorem OutAt.setOther {w : World} {B P : Nat} {v : Value} {l : List UInt8} (h : OutAt w B v l) (hP : ∀ k, ByteRow w k → P ≠ k) (i : Nat) (u : Value) : OutAt (w.setCell ⟨P, i, none⟩ u) B v l :=
  h.kept fun g hg => heap_setCell_other w ⟨P, i, none⟩ g u (fun e => hP g hg e.symm)
theorem Made.setRow {w0 w : World} {P n : Nat} {v u : Value} {l : List UInt8} (h : Made w0 w v l) (hr : RowCells w P u n) (hP : w0.heap.size ≤ P) (i : Nat) (x : Value) : Made w0 (w.setCell ⟨P, i, none⟩ x) v l :=
  ⟨h.out.setOther (fun _ hk => hr.ne hk) i x, h.bel.setCell (by exact hP) x⟩
theorem put_byte (x : UInt8) (code j n : Nat) (hc : code < 4294967296) : bits BinOp.or IntKind.u8 (x.toNat : Int) (wrap64 (bits BinOp.and IntKind.i64 ((code : Int) / 2 ^ j) 1 * 2 ^ (n % 8)) % 256) = ((UInt8.ofNat (x.toNat ||| code / 2 ^ j % 2 * 2 ^ (n % 8))).toNat : Int) := by
  have hx := x.toNat_lt
  have hlt := Im.or_lt x.toNat (code / 2 ^ j % 2) (n % 8) hx (by omega) (by omega)
  have e0 : ((code : Int) / 2 ^ j) = ((code / 2 ^ j : Nat) : Int) := by simp
  have e1 : bits BinOp.and IntKind.i64 ((code : Int) / 2 ^ j) 1 = ((code / 2 ^ j % 2 : Nat) : Int) := by
    rw [e0]
    have hcj : code / 2 ^ j < 9223372036854775808 := Nat.lt_of_le_of_lt (Nat.div_le_self _ _) (by omega)
    have := bits_and_i64 (code / 2 ^ j) 1 hcj (by omega)
    rw [Nat.and_one_is_mod, show ((1 : Nat) : Int) = 1 from rfl] at this
    rw [this]
  have hp : 2 ^ (n % 8) ≤ 2 ^ 7 := Nat.pow_le_pow_right (by omega) (by omega)
  have hb2 : code / 2 ^ j % 2 * 2 ^ (n % 8) < 256 := by
    rcases (by omega : code / 2 ^ j % 2 = 0 ∨ code / 2 ^ j % 2 = 1) with e | e <;> rw [e] <;> omega
  have e3 : (((code / 2 ^ j % 2 : Nat) : Int) * 2 ^ (n % 8)) = ((code / 2 ^ j % 2 * 2 ^ (n % 8) : Nat) : Int) := by rw [Int.natCast_mul, Int.natCast_pow]; rfl
  rw [e1, e3]
  have e4 : wrap64 ((code / 2 ^ j % 2 * 2 ^ (n % 8) : Nat) : Int) % 256 = ((code / 2 ^ j % 2 * 2 ^ (n % 8) : Nat) : Int) := by
    generalize code / 2 ^ j % 2 * 2 ^ (n % 8) = y at hb2
    rw [show wrap64 (y : Int) = (y : Int) from by unfold wrap64; omega]
    omega
  rw [e4, u8_or_nat _ _ hx hb2, UInt8.toNat_ofNat', Nat.mod_eq_of_lt hlt]
set_option maxRecDepth 100000 in
set_option maxHeartbeats 4000000 in
theorem put_row (w0 : World) (P : Nat) (bt : List Nat) (code L : Nat) (w : World) (h : RowAt w0 w P bt) (hc : code < 4294967296) (hL : L ≤ 16) (hb : bt.length ≤ 4294967296) :
    Calls Try.prog 34 #[.pointer (some ⟨P, 0, none⟩), .int .i64 (code : Int), .int .i64 (L : Int)] w fun o w' => o = .returned (.tuple #[]) ∧ RowAt w0 w' P (bt ++ Im.codeBits code L) := by
  go_enter Try.func34, Try.ntmps34
  go_wp2_with fail
  go_loopw [6] (fun i wr => ∃ j : Nat, j ≤ L ∧ i = .int .i64 ((j : Int) - 1) ∧ RowAt w0 wr P (bt ++ (Im.codeBits code L).take (L - j))) (fun i _ => (intOf i + 1).toNat)
  case atStart => exact ⟨L, Nat.le_refl _, rfl, by rw [Nat.sub_self, List.take_zero, List.append_nil]; exact h⟩
  case round =>
    clear h
    obtain ⟨j, hj, rfl, hr⟩ := hrel
    cases j with
    | zero =>
      rw [Nat.sub_zero, List.take_of_length_le (by rw [Im.codeBits_length]; exact Nat.le_refl _)] at hr
      have HR := Lib.hid hr
      clear hr
      go_wp2_with fail
      go_end0
      exact ⟨rfl, HR.out⟩
    | succ j =>
      have ej : (((j + 1 : Nat) : Int) - 1) = (j : Int) := by omega
      rw [ej]
      have hnx := Im.codeBits_next code L j (by omega)
      have hlen : (bt ++ (Im.codeBits code L).take (L - (j + 1))).length ≤ 4294967312 := by rw [List.length_append, List.length_take, Im.codeBits_length]; omega
      have hnx2 : (bt ++ (Im.codeBits code L).take (L - (j + 1))) ++ [code / 2 ^ j % 2] = bt ++ (Im.codeBits code L).take (L - j) := by rw [List.append_assoc, hnx]
      generalize bt ++ (Im.codeBits code L).take (L - (j + 1)) = bs at *
      replace hnx2 := Lib.hid hnx2
      clear hnx
      have q0 : decide ((0 : Int) ≤ (j : Int)) = true := decide_eq_true (by omega)
      obtain ⟨⟨v, l, hrc, hm, hby⟩, hP⟩ := hr
      have k0 := hrc.c0
      have k1 := hrc.c1
      have f0 := hrc.fz 0
      go_upto_if 18 with fail
      go_cut [] from 9 to 58 (fun wx => RoomAt w0 wx P bs)
      case first =>
        by_cases h8 : bs.length % 8 = 0
        · have q1 : ((bs.length : Int) % 8 == 0) = true := by simp; omega
          have hro := Lib.hid (hby.room_new h8)
          have hmm := Lib.hid hm
          have hrcc := Lib.hid hrc
          have hll := hby.len
          have hlb : l.length + 1 ≤ 140737488355328 := by omega
          have HN := Lib.hid (show #[Value.int .u8 0].toList = bvals [0] from rfl)
          clear hm hrc hby h8 hll
          go_wp2_with (at_builtin; go_loud (refine wpList_lit rfl _ _ rfl w0.heap.size v l rfl _ 1 hmm.out.out rfl ?pe ?pf ?pg ?ph ?pi ?pj; (case pf => exact HN.out); (case pg => exact rfl); (case ph => exact hlb); (case pi => exact hmm.out.bel.size)); intro v2 w2 ho2 hg2; obtain ⟨a5, cap5, ev, hnn⟩ := ho2.slice; subst ev; replace hnn := Lib.hid hnn; have hm2 : Made w0 w2 _ (l ++ [0]) := ⟨ho2, (hmm.out.bel.alloc hmm.out.bel.size _).grown hg2 (Nat.le_trans hmm.out.bel.size (by simp)) fun g hg => (OutAt.row hmm.out.out g hg).1⟩; have hrc2 : RowCells w2 P v bs.length := (hrcc.out.below ((Below.refl _ _).alloc (Nat.le_refl _) _)).grown (hmm.out.out.below ((Below.refl _ _).alloc (Nat.le_refl _) _)) hg2; have k0' := hrc2.c0; have f0' := hrc2.fz 0; replace hm2 := Lib.hid hm2; replace hrc2 := Lib.hid hrc2; clear ho2 hg2)
          go_meet
          rcases hnn.out with ⟨_, hnn⟩ | ⟨g, rfl⟩
          · exact absurd (congrArg List.length hnn) (by simp)
          · have e1 : l.length + 1 = (l ++ [0]).length := by simp
            rw [e1]
            exact ⟨⟨g, cap5, _, hrc2.out.set0 _, hm2.out.setRow hrc2.out hP 0 _, hro.out⟩, hP⟩
        · have q1 : ((bs.length : Int) % 8 == 0) = false := by simp; omega
          have hro := hby.room_on h8
          have HC : Hid (RoomAt w0 wr P bs) := by
            obtain ⟨a5, cap5, ev, hnn⟩ := hm.out.slice
            rcases hnn with ⟨_, hnn⟩ | ⟨g, rfl⟩
            · have := hro.len; rw [hnn] at this; simp at this
            · rw [ev] at hrc hm
              exact Lib.hid ⟨⟨g, cap5, _, hrc, hm, hro⟩, hP⟩
          clear hm hrc hby h8
          go_wp2_with fail
          go_meet
          exact HC.out
      case rest =>
        clear k0 k1 f0 hrc hm hby
        obtain ⟨⟨g, cap, l1, hrc, hm, hro⟩, _⟩ := hcut
        have k0 := hrc.c0
        have k1 := hrc.c1
        have f1 := hrc.fz 1
        have hl := hro.len
        have d0 : (0 : Int) ≤ (bs.length : Int) / 8 := by omega
        have d1 : (bs.length : Int) / 8 < (l1.length : Int) := by omega
        have d2 : ((bs.length : Int) / 8).toNat = bs.length / 8 := by omega
        go_upto_region 5 with fail
        have hx : ∃ x : UInt8, l1[bs.length / 8]? = some x := ⟨_, List.getElem?_eq_getElem (by omega)⟩
        obtain ⟨x, hx⟩ := hx
        have hcx : wc.cell? ⟨g, bs.length / 8, none⟩ = some (.int .u8 (x.toNat : Int)) := by
          obtain ⟨y, e1, e2⟩ := cell_own hm.out (bs.length / 8) (by omega)
          rw [hx] at e1
          injection e1 with e1
          rw [e1]; exact e2
        have hfx : wc.frozen? ⟨g, bs.length / 8, none⟩ = false := World.ownsRow.frozenAt hm.out _
        go_region
        rw [put_byte x code j bs.length hc]
        have hll : (Im.lay l1 bs.length (code / 2 ^ j % 2)).length = l1.length := List.length_set
        have hlx : Im.lay l1 bs.length (code / 2 ^ j % 2) = l1.set (bs.length / 8) (UInt8.ofNat (x.toNat ||| code / 2 ^ j % 2 * 2 ^ (bs.length % 8))) := by
          unfold Im.lay
          rw [List.getD_eq_getElem?_getD, hx]
          rfl
        have hby := hro.lay (b := code / 2 ^ j % 2) (by omega)
        have hgb : w0.heap.size ≤ g := (OutAt.row hm.out g rfl).1
        have hgr : ByteRow wc g := (OutAt.row hm.out g rfl).2
        have hgw : Made w0 (wc.setCell ⟨g, bs.length / 8, none⟩ (.int .u8 ((UInt8.ofNat (x.toNat ||| code / 2 ^ j % 2 * 2 ^ (bs.length % 8))).toNat : Int))).drew (.slice (some ⟨g, 0, none⟩) l1.length cap) (Im.lay l1 bs.length (code / 2 ^ j % 2)) := by
          refine ⟨?_, (hm.bel.setCell (by exact hgb) _).drew⟩
          unfold OutAt
          rw [hll, hlx]
          exact stored_own hm.out _ _
        have hrw : RowCells (wc.setCell ⟨g, bs.length / 8, none⟩ (.int .u8 ((UInt8.ofNat (x.toNat ||| code / 2 ^ j % 2 * 2 ^ (bs.length % 8))).toNat : Int))).drew P (.slice (some ⟨g, 0, none⟩) l1.length cap) bs.length := by
          have := heap_setCell_other wc ⟨g, bs.length / 8, none⟩ P (.int .u8 ((UInt8.ofNat (x.toNat ||| code / 2 ^ j % 2 * 2 ^ (bs.length % 8))).toNat : Int)) (hrc.ne hgr)
          unfold RowCells at hrc ⊢
          rw [← hrc]
          exact this
        generalize (wc.setCell ⟨g, bs.length / 8, none⟩ (.int .u8 ((UInt8.ofNat (x.toNat ||| code / 2 ^ j % 2 * 2 ^ (bs.length % 8))).toNat : Int))).drew = wd at *
        generalize Im.lay l1 bs.length (code / 2 ^ j % 2) = l2 at *
        have hbl : bs.length ≤ 4294967312 := hlen
        clear k0 k1 f1 hcx hfx hrc hm hro hl hx d0 d1 d2 hlx hgr hgb
        have k1 := hrw.c1
        have f1 := hrw.fz 1
        have HB : Hid (RowAt w0 (wd.setCell ⟨P, 1, none⟩ (.int .i64 ((bs.length + 1 : Nat) : Int))) P (bt ++ (Im.codeBits code L).take (L - j))) := by
          have e2 := hnx2.out
          refine Lib.hid ⟨⟨_, l2, ?_, (hgw.setRow hrw hP 1 _), by rw [← e2]; exact hby⟩, hP⟩
          have e3 : (bt ++ (Im.codeBits code L).take (L - j)).length = bs.length + 1 := by rw [← e2]; simp
          rw [e3]
          exact hrw.set1 _
        clear hgw hrw hby hnx2 hll
        have e9 : IntKind.i64.wrap ((bs.length : Int) + 1) = ((bs.length + 1 : Nat) : Int) := by rw [IntWalk.i64_in _ (by omega)]; omega
        go_wp2_with fail
        go_roundw
        case rel => exact ⟨j, by omega, by go_num, HB.out⟩
        case measure => simp [intOf]
theorem byte_row (w0 : World) (P : Nat) (bt : List Nat) (c : UInt8) (w : World) (h : RowAt w0 w P bt) (hb : bt.length ≤ 4294967296) :
    Calls Try.prog 33 #[.pointer (some ⟨P, 0, none⟩), .int .i64 (c.toNat : Int)] w fun o w' => o = .returned (.tuple #[]) ∧ RowAt w0 w' P (bt ++ Im.litBits c.toNat) := by
  have hc := c.toNat_lt
  have hcode := Im.fixLit_code c.toNat (by omega)
  have hlen := Im.fixLit_len c.toNat (by omega)
  by_cases h1 : c.toNat < 144
  · rw [if_pos h1] at hcode hlen
    have HP := Lib.hid (put_row w0 P bt (48 + c.toNat) 8 w h (by omega) (by omega) hb)
    have e1 : ((48 + c.toNat : Nat) : Int) = 48 + (c.toNat : Int) := by omega
    have e2 : ((8 : Nat) : Int) = 8 := rfl
    rw [e1, e2] at HP
    have e3 : Im.litBits c.toNat = Im.codeBits (48 + c.toNat) 8 := by unfold Im.litBits; rw [hcode, hlen]
    rw [e3]
    have q : decide ((c.toNat : Int) < 144) = true := by simp; omega
    clear h hcode hlen e3 e1 e2
    generalize c.toNat = x at *
    go_enter Try.func33, Try.ntmps33
    go_wp2_with (go_at_call 34; refine HP.out.mono ?_; rintro o w' ⟨rfl, hr⟩)
    go_end0
    exact ⟨rfl, hr⟩
  · rw [if_neg h1, if_pos (by omega)] at hcode hlen
    have HP := Lib.hid (put_row w0 P bt (400 + (c.toNat - 144)) 9 w h (by omega) (by omega) hb)
    have e1 : ((400 + (c.toNat - 144) : Nat) : Int) = 400 + (c.toNat : Int) - 144 := by omega
    have e2 : ((9 : Nat) : Int) = 9 := rfl
    rw [e1, e2] at HP
    have e3 : Im.litBits c.toNat = Im.codeBits (400 + (c.toNat - 144)) 9 := by unfold Im.litBits; rw [hcode, hlen]
    rw [e3]
    have q : decide ((c.toNat : Int) < 144) = false := by simp; omega
    clear h hcode hlen e3 e1 e2
    generalize c.toNat = x at *
    go_enter Try.func33, Try.ntmps33
    go_wp2_with (go_at_call 34; refine HP.out.mono ?_; rintro o w' ⟨rfl, hr⟩)
    go_end0
    exact ⟨rfl, hr⟩
theorem begin_row (w : World) :
    Calls Try.prog 32 #[] w fun o w' => o = .returned (.pointer (some ⟨w.heap.size, 0, none⟩)) ∧ RowAt w w' w.heap.size [1, 1, 0] := by
  have hr0 : RowAt w (w.alloc (.cells #[.slice none 0 0, .int .i64 0] 54)) w.heap.size [] :=
    ⟨⟨_, [], heap_alloc_new w _, ⟨OutAt.nil _ _, (Below.refl _ w).alloc (Nat.le_refl _) _⟩, Im.Bytes.nil⟩, Nat.le_refl _⟩
  have HP := fun bt code L w' h h1 h2 h3 => Lib.hid (put_row w w.heap.size bt code L w' h h1 h2 h3)
  have H1 := fun w' h => HP [] 1 1 w' h (by omega) (by omega) (by decide)
  have H2 := fun w' h => HP [1] 1 1 w' h (by omega) (by omega) (by decide)
  have H3 := fun w' h => HP [1, 1] 0 1 w' h (by omega) (by omega) (by decide)
  have e1 : ([] : List Nat) ++ Im.codeBits 1 1 = [1] := rfl
  have e2 : ([1] : List Nat) ++ Im.codeBits 1 1 = [1, 1] := rfl
  have e3 : ([1, 1] : List Nat) ++ Im.codeBits 0 1 = [1, 1, 0] := rfl
  have e4 : ((1 : Nat) : Int) = 1 := rfl
  have e5 : ((0 : Nat) : Int) = 0 := rfl
  rw [e1, e4] at H1
  rw [e2, e4] at H2
  rw [e3, e4, e5] at H3
  clear HP e1 e2 e3 e4 e5
  replace hr0 := Lib.hid hr0
  go_enter Try.func32, Try.ntmps32
  go_upto_region 2 with fail
  have hr1 := hr0
  generalize w.alloc (.cells #[.slice none 0 0, .int .i64 0] 54) = w1 at *
  go_upto_region 3 with (go_at_call 34; refine (H1 _ hr0.out).out.mono ?_; rintro o w2 ⟨rfl, hr2⟩; replace hr2 := Lib.hid hr2)
  go_upto_region 4 with (go_at_call 34; refine (H2 _ hr2.out).out.mono ?_; rintro o w3 ⟨rfl, hr3⟩; replace hr3 := Lib.hid hr3)
  go_wp2_with (go_at_call 34; refine (H3 _ hr3.out).out.mono ?_; rintro o w4 ⟨rfl, hr4⟩; replace hr4 := Lib.hid hr4)
  go_ret
  exact ⟨rfl, hr4.out⟩
end Go.Proofs.Ytcjcmlnbchmnnaa
