/- farrierlaw09.InflateRuns: the walk. -/
import Derived.Test.YtcjcmlnbchmnnaaIFixed9
import Derived.Test.YtcjcmlnbchmnnaaIPut
import Derived.Test.YtcjcmlnbchmnnaaIMark
namespace Go.Proofs.Ytcjcmlnbchmnnaa
open Go.RowKit

theorem RowAt.below {w0 w w' : World} {P : Nat} {bt : List Nat} (h : RowAt w0 w P bt) (hb : Below w.heap.size w w') : RowAt w0 w' P bt := by
  obtain ⟨⟨v, l, h1, h2, h3⟩, h4⟩ := h
  exact ⟨⟨v, l, h1.below hb, h2.below hb, h3⟩, h4⟩
def litsOf (l : List UInt8) : List Nat := l.flatMap fun c => Im.litBits c.toNat
theorem lits_bound : ∀ l : List UInt8, (litsOf l).length ≤ 9 * l.length
  | [] => Nat.le_refl _
  | c :: l => by
    have ih := lits_bound l
    have hc := c.toNat_lt
    unfold litsOf at *
    rw [List.flatMap_cons, List.length_append, Im.litBits_length, Im.fixLit_len _ (by omega), List.length_cons]
    split <;> omega
theorem lits_snoc (s : ByteArray) (k : Nat) (h : k < s.size) : litsOf (s.data.toList.take (k + 1)) = litsOf (s.data.toList.take k) ++ Im.litBits s[k].toNat := by
  rw [Cm.take_snoc s k h]
  simp [litsOf]
set_option maxHeartbeats 4000000 in
set_option maxRecDepth 100000 in
theorem walk_InflateRuns (a0 : ByteArray) (a1 a2 : Int) (_z0 : a0.size ≤ 140737488351232) (_w1 : (Lit.int .i64 a1).wf = true) (_w2 : (Lit.int .i64 a2).wf = true) (w : World) :
    Calls Try.prog 9 #[.string a0, .int .i64 a1, .int .i64 a2] w fun e w' => e = .returned (.bool true) ∧ Below w.heap.size w w' := by
  have HF := fun w => Lib.hid (fixed9 w)
  by_cases h5 : a0.size < 1
  · have q : decide ((a0.size : Int) < 1) = true := decide_eq_true (by omega)
    have q' : decide (a0.size < 1) = true := decide_eq_true (by omega)
    go_enter Try.func9, Try.ntmps9
    go_wp2_with (go_at_call 25; refine (HF _).out.mono ?_; rintro e w' ⟨rfl, hb⟩)
    go_ret
    exact ⟨rfl, hb⟩
  have q : decide ((a0.size : Int) < 1) = false := decide_eq_false (by omega)
  have q' : decide (a0.size < 1) = false := decide_eq_false (by omega)
  by_cases h6 : 4 < a0.size
  · have q2 : decide ((4 : Int) < (a0.size : Int)) = true := by simp; omega
    have q2' : decide (4 < a0.size) = true := by simp; omega
    go_enter Try.func9, Try.ntmps9
    go_wp2_with (go_at_call 25; refine (HF _).out.mono ?_; rintro e w' ⟨rfl, hb⟩)
    go_ret
    exact ⟨rfl, hb⟩
  have q2 : decide ((4 : Int) < (a0.size : Int)) = false := by simp; omega
  have q2' : decide (4 < a0.size) = false := by simp; omega
  have HG := Lib.hid (begin_row w)
  obtain ⟨n0, hn0, en0⟩ := and_mask a1 7 (by omega)
  have en0' : bits BinOp.and IntKind.i64 a1 7 = (n0 : Int) := en0
  obtain ⟨d0, hd0, ed0⟩ := and_mask a2 3 (by omega)
  have ed0' : bits BinOp.and IntKind.i64 a2 3 = (d0 : Int) := ed0
  clear en0 ed0
  go_enter Try.func9, Try.ntmps9
  go_upto_block 0 with (go_at_call 32; refine HG.out.mono ?_; rintro e w1 ⟨rfl, hr0⟩)
  clear HG
  generalize hP : w.heap.size = P at hr0 ⊢
  go_cut [] from 32 to 43 (fun wx => RowAt w wx P ([1, 1, 0] ++ litsOf a0.data.toList))
  case first =>
    go_wp2_with fail
    go_loopw [10] (fun i wr => ∃ k : Nat, i = .int .i64 k ∧ k ≤ a0.size ∧ RowAt w wr P ([1, 1, 0] ++ litsOf (a0.data.toList.take k))) (fun i _ => a0.size - (intOf i).toNat)
    case atStart => exact ⟨0, rfl, by omega, hr0⟩
    case round =>
      clear hr0
      obtain ⟨k, rfl, hk, hr⟩ := hrel
      by_cases hlt : k < a0.size
      · have q1 : decide ((k : Int) < (a0.size : Int)) = true := by simp; omega
        have q1' : decide (k < a0.size) = true := by simp; omega
        have hlb := lits_bound (a0.data.toList.take k)
        rw [List.length_take, blen] at hlb
        have HB := Lib.hid (byte_row w P _ a0[k] wr hr (by rw [List.length_append]; simp only [List.length_cons, List.length_nil]; omega))
        rw [List.append_assoc, ← lits_snoc a0 k hlt] at HB
        have hw64 : wrap64 ((a0[k].toNat : Nat) : Int) = (a0[k].toNat : Int) := by have := a0[k].toNat_lt; unfold wrap64; omega
        clear hr hlb
        go_wp2_with (go_at_call 33; refine HB.out.mono ?_; rintro o w2 ⟨rfl, hr2⟩; replace hr2 := Lib.hid hr2)
        go_roundw
        case rel => exact ⟨k + 1, by go_num, by omega, hr2.out⟩
        case measure => simp [intOf]; omega
      · have q1 : decide ((k : Int) < (a0.size : Int)) = false := by simp; omega
        have q1' : decide (k < a0.size) = false := by simp; omega
        rw [Cm.take_all a0 k (by omega)] at hr
        have HR := Lib.hid hr
        clear hr
        go_wp2_with fail
        go_meet
        exact HR.out
  case rest =>
    clear hr0
    obtain ⟨wa, hwa⟩ : ∃ x : World, x = wc := ⟨wc, rfl⟩
    subst hwa
    have hlb := lits_bound a0.data.toList
    rw [blen] at hlb
    have hbl : ([1, 1, 0] ++ litsOf a0.data.toList).length ≤ 39 := by rw [List.length_append]; simp only [List.length_cons, List.length_nil]; omega
    have H1p := fun w' h => Lib.hid (put_row w P ([1, 1, 0] ++ litsOf a0.data.toList) (n0 + 1) 7 w' h (by omega) (by omega) (by omega))
    have H2p := fun w' h => Lib.hid (put_row w P ([1, 1, 0] ++ litsOf a0.data.toList ++ Im.codeBits (n0 + 1) 7) d0 5 w' h (by omega) (by omega) (by rw [List.length_append, Im.codeBits_length]; omega))
    have H3p := fun w' h => Lib.hid (put_row w P ([1, 1, 0] ++ litsOf a0.data.toList ++ Im.codeBits (n0 + 1) 7 ++ Im.codeBits d0 5) 0 7 w' h (by omega) (by omega) (by rw [List.length_append, List.length_append, Im.codeBits_length, Im.codeBits_length]; omega))
    have e0 : [1, 1, 0] ++ litsOf a0.data.toList ++ Im.codeBits (n0 + 1) 7 ++ Im.codeBits d0 5 ++ Im.codeBits 0 7 = Im.runBits a0.data.toList (n0 + 3) (d0 + 1) := by
      unfold Im.runBits litsOf; simp only [List.append_assoc]; rfl
    rw [e0, show ((0 : Nat) : Int) = 0 from rfl, show ((7 : Nat) : Int) = 7 from rfl] at H3p
    rw [show ((7 : Nat) : Int) = 7 from rfl, show ((n0 + 1 : Nat) : Int) = 3 + (n0 : Int) - 2 by omega] at H1p
    rw [show ((5 : Nat) : Int) = 5 from rfl, show (d0 : Int) = 1 + (d0 : Int) - 1 by omega] at H2p
    have hrl : (Im.runBits a0.data.toList (n0 + 3) (d0 + 1)).length ≤ 200 := by rw [← e0, List.length_append, List.length_append, List.length_append, Im.codeBits_length, Im.codeBits_length, Im.codeBits_length]; omega
    have hr0 := Lib.hid hcut
    clear e0 hcut hbl hlb
    go_upto_region 10 with (go_at_call 34; refine (H1p _ hr0.out).out.mono ?_; rintro o w2 ⟨rfl, hr1⟩; replace hr1 := Lib.hid hr1)
    go_upto_region 11 with (go_at_call 34; refine (H2p _ hr1.out).out.mono ?_; rintro o w3 ⟨rfl, hr2⟩; replace hr2 := Lib.hid hr2)
    go_upto_region 12 with (go_at_call 34; refine (H3p _ hr2.out).out.mono ?_; rintro o w4 ⟨rfl, hr3⟩)
    clear H1p H2p H3p hr0 hr1 hr2
    obtain ⟨⟨v, l, hrc, hm, hby⟩, hPw⟩ := hr3
    have hat := hby.at []
    rw [List.append_nil] at hat
    have hl0 := blen a0
    have hrr := Im.runs_run (s := l) (most := 100) a0.data.toList (n := n0 + 3) (d := d0 + 1) (by omega) (by omega) (by omega) (by omega) hat (by omega)
    rw [hl0] at hrr
    have hll := hby.len
    have esz : (ByteArray.mk l.toArray).size = l.length := by simp [ByteArray.size]
    have hcv := conv_own hm.out
    have k0 := hrc.c0
    have hmb := Lib.hid hm.bel
    have hcl := Im.copyP_length a0.data.toList (d0 + 1)
    rw [hl0] at hcl
    obtain ⟨a5, cap5, hv5, _⟩ := hm.out.slice
    subst hv5
    by_cases hd : a0.size < d0 + 1
    · obtain ⟨b, hrun⟩ := hrr.1 hd
      have H1 := fun w => Lib.hid (one_run 100 ⟨l.toArray⟩ w b 92 (by omega) (by rw [esz]; omega) hrun)
      unfold OneIn at H1
      have n3 : oneE b 92 = 92 := if_pos (by omega)
      rw [n3, show ((100 : Nat) : Int) = 100 from rfl] at H1
      have q4 : decide ((a0.size : Int) < 1 + (d0 : Int)) = true := decide_eq_true (by omega)
      generalize (ByteArray.mk l.toArray) = es at *
      generalize oneO b 92 = oo at *
      generalize oneN b 92 = on at *
      generalize l.length = ll at *
      clear hrr hat hll esz hby hm hrc hcl hd hrun n3 hrl
      go_wp2_with (first | (go_at_call 27; refine (H1 _).out.mono ?_; rintro o w5 ⟨rfl, hb5⟩) | (go_at_call 25; refine (HF _).out.mono ?_; rintro e w' ⟨rfl, hb⟩))
      go_ret
      exact ⟨rfl, belThen (belThen hmb.out hb5) hb⟩
    · obtain ⟨b, hrun, h3, hout⟩ := hrr.2 (by omega)
      have H1 := fun w => Lib.hid (one_run 100 ⟨l.toArray⟩ w b 0 (by omega) (by rw [esz]; omega) hrun)
      unfold OneIn at H1
      have n1 : oneO b 0 = Im.copyP a0.data.toList (d0 + 1) (n0 + 3) := by rw [← hout]; exact if_pos ⟨rfl, h3⟩
      have n3 : oneE b 0 = 0 := by unfold oneE; rw [if_neg (by simp), if_pos h3]
      rw [n1, n3, show ((100 : Nat) : Int) = 100 from rfl] at H1
      have q4 : decide ((a0.size : Int) < 1 + (d0 : Int)) = false := decide_eq_false (by omega)
      generalize (ByteArray.mk l.toArray) = es at *
      generalize oneN b 0 = on at *
      generalize l.length = ll at *
      have hdl : d0 + 1 ≤ a0.size := by omega
      have ha4 : a0.size ≤ 4 := by omega
      clear hrr hat hll esz hby hm hrc hd hrun n1 n3 hrl hout h3
      go_wp2_with (first | (go_at_call 27; refine (H1 _).out.mono ?_; rintro o w5 ⟨rfl, hb5⟩; obtain ⟨mv, wm, hcm, hMB⟩ := mb_conv w w5 a0 (belThen hmb.out hb5)))
      go_loopw [14, 15] (fun v i wr => ∃ k : Nat, i = .int .i64 k ∧ k ≤ n0 + 3 ∧ MB w wr v (Im.copyP a0.data.toList (d0 + 1) k)) (fun _ i _ => n0 + 3 - (intOf i).toNat)
      case atStart => exact ⟨0, rfl, by omega, hMB⟩
      case round =>
        clear hMB
        obtain ⟨k, rfl, hk, hmk⟩ := hrel
        have hlk := hcl k
        by_cases hlt : k < n0 + 3
        · have q5 : decide ((k : Int) < 3 + (n0 : Int)) = true := decide_eq_true (by omega)
          have hnx : Im.copyP a0.data.toList (d0 + 1) (k + 1) = Im.copyP a0.data.toList (d0 + 1) k ++ [(Im.copyP a0.data.toList (d0 + 1) k).getD ((Im.copyP a0.data.toList (d0 + 1) k).length - (d0 + 1)) 0] := rfl
          generalize Im.copyP a0.data.toList (d0 + 1) k = C at *
          obtain ⟨ix, hix⟩ : ∃ ix, ix = C.length - (d0 + 1) := ⟨_, rfl⟩
          rw [← hix] at hnx
          have hixl : ix < C.length := by omega
          have hgd : C.getD ix 0 = C[ix] := by rw [List.getD_eq_getElem?_getD, List.getElem?_eq_getElem hixl]; rfl
          rw [hgd] at hnx
          have HM := Lib.hid hmk
          obtain ⟨g, cap, hv, e1, e2, e3, e4⟩ := hmk.ex
          subst hv
          have kc := e3 ix hixl
          generalize C[ix] = cx at *
          have f1 : ((C.length : Int) - (1 + (d0 : Int))) = (ix : Int) := by omega
          have d1 : (ix : Int) < (C.length : Int) := by omega
          have hz := Lib.hid (show C.length + 1 ≤ 1000 by omega)
          replace hnx := Lib.hid hnx
          have hcl20 : C.length ≤ 100 := by omega
          clear e1 e2 e3 e4 hmk hgd hlk hcl
          generalize hCl : C.length = cl at *
          replace hCl := Lib.hid hCl
          replace hix := Lib.hid hix
          go_wp2_with (at_builtin; (refine wpList_mb rfl _ _ rfl w _ C rfl cx rfl ?ra ?rb ?rc; (case ra => exact HM.out); (case rb => rw [hCl.out]; exact hz.out)); intro v3 w3 ho3; replace ho3 := Lib.hid ho3)
          go_roundw
          case rel => exact ⟨k + 1, by go_num, by omega, by rw [hnx.out]; exact ho3.out⟩
          case measure => simp [intOf]; omega
        · obtain rfl : k = n0 + 3 := by omega
          have q5 : decide (((n0 + 3 : Nat) : Int) < 3 + (n0 : Int)) = false := decide_eq_false (by omega)
          have q5' : decide ((n0 : Int) + 3 < 3 + (n0 : Int)) = false := decide_eq_false (by omega)
          have hbk := fun w' hb => Lib.hid (mb_back (hmk.below (w' := w') hb))
          have hmbl := Lib.hid hmk.bel
          generalize Im.copyP a0.data.toList (d0 + 1) (n0 + 3) = C at *
          clear hmk hlk hcl
          go_wp2_with (go_at_call 25; refine (HF _).out.mono ?_; rintro e w' ⟨rfl, hb⟩; have hbk2 := (hbk _ hb).out)
          go_ret
          exact ⟨rfl, belThen hmbl.out hb⟩
end Go.Proofs.Ytcjcmlnbchmnnaa
