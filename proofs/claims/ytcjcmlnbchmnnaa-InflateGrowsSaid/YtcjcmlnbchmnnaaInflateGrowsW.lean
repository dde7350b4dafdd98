/- farrierlaw09.InflateGrows: the walk. -/
import Derived.Test.YtcjcmlnbchmnnaaIFixed9
import Derived.Test.YtcjcmlnbchmnnaaIClone
import Derived.Test.YtcjcmlnbchmnnaaXE
import Derived.Deep.RegionHeld3
import Derived.BigQuiet
namespace Go.Proofs.Ytcjcmlnbchmnnaa
open Go.RowKit

theorem bound9g (a : Int) (w : World) : Calls Try.prog 26 #[.int .i64 a] w fun e w' => e = .returned (.int .i64 (min a 200000)) ∧ w = w' := by
  go_enter Try.func26, Try.ntmps26
  go_wp2
  all_goals
    go_ret
    exact ⟨ret_int (by omega), rfl⟩
/-- so many bytes are written, byte by byte or piece by piece -/
def GrowAt (w0 : World) (R most : Nat) (S : List UInt8) (at' told : Value) (w : World) : Prop :=
  ∃ p bk c, p ≤ S.length ∧ at' = .int .i64 (p : Int) ∧ HistB w R bk most (S.take p) c ∧ told = .string ⟨c.out.toArray⟩ ∧ (∀ k, Blks R bk k → w0.heap.size ≤ k) ∧ Below w0.heap.size w0 w
theorem sub_bytes (s : ByteArray) (p n : Nat) : (s.extract p (p + n)).data.toList = (s.data.toList.drop p).take n := by
  simp [List.take_drop]
/-- the reference's Run of bytes that may go on -/
theorem xrun_ok (most : Nat) (s : ByteArray) (w : World) (c : Im.St) (hm : most ≤ 140737488355328) (hs : s.size ≤ 281474976710656) (hrun : Im.Run s.data.toList most Im.start c 0) :
    Calls Try.prog 36 #[.string s, .int .i64 (most : Int)] w fun o w' => ∃ n : Nat, o = .returned (.tuple #[.string ⟨c.out.toArray⟩, .int .i64 (n : Int), .bool (decide (c.state = 3)), .int .i64 0]) ∧ (c.state = 3 → n = c.pos / 8) ∧ Below w.heap.size w w' := by
  refine (xrun_go most s w c 0 hm hs hrun).mono ?_
  rintro o w' ⟨n, rfl, hn, hb⟩
  have e1 : decide ((0 : Int) = 0 ∧ c.state = 3) = decide (c.state = 3) := by simp
  exact ⟨n, by rw [if_pos rfl, e1], hn rfl, hb⟩
theorem xrun_bad (most : Nat) (s : ByteArray) (w : World) (c : Im.St) (e : Int) (he : e ≠ 0) (hm : most ≤ 140737488355328) (hs : s.size ≤ 281474976710656) (hrun : Im.Run s.data.toList most Im.start c e) :
    Calls Try.prog 36 #[.string s, .int .i64 (most : Int)] w fun o w' => ∃ n : Nat, o = .returned (.tuple #[.string ⟨#[]⟩, .int .i64 (n : Int), .bool false, .int .i64 e]) ∧ Below w.heap.size w w' := by
  refine (xrun_go most s w c e hm hs hrun).mono ?_
  rintro o w' ⟨n, rfl, hn, hb⟩
  have e1 : decide (e = 0 ∧ c.state = 3) = false := by simp [he]
  exact ⟨n, by rw [if_neg he, e1], hb⟩
set_option maxHeartbeats 4000000 in
set_option maxRecDepth 100000 in
theorem walk_InflateGrows (a0 : ByteArray) (a1 : Int) (a2 : Option Addr) (cap2 : Nat) (ls : List Int) (w : World) (z0 : a0.size ≤ 140737488351232) (_w1 : (Lit.int .i64 a1).wf = true) (s2 : SInts w a2 ls) (_m2 : ls.length ≤ maxLen) (_f2 : ∀ n ∈ ls, (Lit.int .i64 n).wf = true) :
    Calls Try.prog 10 #[.string a0, .int .i64 a1, .slice a2 ls.length cap2] w fun e w' => e = .returned (.bool true) ∧ Below w.heap.size w w' := by
  have HF := fun w => Lib.hid (fixed9 w)
  by_cases h5 : 600 < a0.size
  · have q : decide ((600 : Int) < (a0.size : Int)) = true := by simp; omega
    go_enter Try.func10, Try.ntmps10
    go_wp2_with (go_at_call 25; refine (HF _).out.mono ?_; rintro e w' ⟨rfl, hb⟩)
    go_ret
    exact ⟨rfl, hb⟩
  have q : decide ((600 : Int) < (a0.size : Int)) = false := by simp; omega
  have HB := Lib.hid (bound9g a1 w)
  have hmo : min a1 200000 ≤ 200000 := Int.min_le_right _ _
  generalize min a1 200000 = mo at *
  by_cases hneg : mo < 0
  · have H2 := Lib.hid (new_no mo w hneg)
    have q2 : decide (mo < 0) = true := decide_eq_true hneg
    clear hneg hmo
    go_enter Try.func10, Try.ntmps10
    go_wp2_with (first | (go_at_call 26; refine HB.out.mono ?_; rintro e w' ⟨rfl, rfl⟩) | (go_at_call 28; refine H2.out.mono ?_; rintro e w' ⟨rfl, rfl⟩) | (go_at_call 25; refine (HF _).out.mono ?_; rintro e w' ⟨rfl, hb⟩))
    go_ret
    exact ⟨rfl, hb⟩
  obtain ⟨m, rfl⟩ := Int.eq_ofNat_of_zero_le (show 0 ≤ mo by omega)
  have hm : m ≤ 200000 := by omega
  clear hneg hmo
  have H2 := Lib.hid (histB_new m w (by omega))
  have hz : a0.size ≤ 600 := by omega
  clear h5
  go_enter Try.func10, Try.ntmps10
  go_upto_region 7 with (first | (go_at_call 26; refine HB.out.mono ?_; rintro e w' ⟨rfl, rfl⟩) | (go_at_call 28; refine H2.out.mono ?_; rintro e w2 ⟨rfl, h2, hb2⟩; clear H2))
  have hS0 : GrowAt w w.heap.size m a0.data.toList (.int .i64 0) (.string ⟨#[]⟩) w2 := ⟨0, none, Im.start, Nat.zero_le _, rfl, h2, rfl, (by rintro k (rfl | hk); exact Nat.le_refl _; cases hk), hb2⟩
  clear h2 hb2
  have hRw : Hid (w.heap.size ≤ w.heap.size) := Lib.hid (Nat.le_refl _)
  generalize hRR : w.heap.size = R at hS0 ⊢
  replace hRR := Lib.hid hRR
  go_wp2_with fail
  go_loopw [9, 10, 11] (fun v1 v2 i wr => ∃ k : Nat, i = .int .i64 k ∧ k ≤ 100 ∧ GrowAt w R m a0.data.toList v1 v2 wr) (fun _ _ i _ => 100 - (intOf i).toNat)
  case atStart => exact ⟨0, rfl, by omega, hS0⟩
  case round =>
    clear hS0
    obtain ⟨i, rfl, hi, p, bk, c, hp, rfl, hh, rfl, hbk, hbl⟩ := hrel
    rw [blen] at hp
    have hfin : Below w.heap.size w wr := hbl
    by_cases c1 : p < a0.size
    rotate_left
    · have q1 : decide ((p : Int) < (a0.size : Int)) = false := decide_eq_false (by omega)
      have q1' : decide (p < a0.size) = false := decide_eq_false (by omega)
      clear hh hbk hp c1
      go_wp2_with (go_at_call 25; refine (HF _).out.mono ?_; rintro e w' ⟨rfl, hb⟩)
      go_ret
      exact ⟨rfl, belThen hfin hb⟩
    have q1 : decide ((p : Int) < (a0.size : Int)) = true := decide_eq_true (by omega)
    have q1' : decide (p < a0.size) = true := decide_eq_true (by omega)
    by_cases c2 : i < 100
    rotate_left
    · have q2 : decide ((i : Int) < 100) = false := decide_eq_false (by omega)
      clear hh hbk hp c1 c2
      go_wp2_with (go_at_call 25; refine (HF _).out.mono ?_; rintro e w' ⟨rfl, hb⟩)
      go_ret
      exact ⟨rfl, belThen hfin hb⟩
    have q2 : decide ((i : Int) < 100) = true := decide_eq_true (by omega)
    clear hfin
    replace hh := Lib.hid hh
    go_upto_if 61 with fail
    go_cut [12] (fun v wx => ∃ nn : Nat, v = .int .i64 (nn : Int) ∧ nn ≤ 63 ∧ wx = wr)
    case first =>
      by_cases d1 : i < ls.length
      · have q3 : decide ((i : Int) < (ls.length : Int)) = true := decide_eq_true (by omega)
        have q3' : decide (i < ls.length) = true := decide_eq_true d1
        obtain ⟨bb, oo', hidx, hcell, hblt⟩ := s2.at i ls[i] (List.getElem?_eq_getElem d1) cap2
        have hcw : wr.cell? ⟨bb, oo', none⟩ = some (.int .i64 ls[i]) := by rw [hbl.cell (p := ⟨bb, oo', none⟩) hblt]; exact hcell
        obtain ⟨n0, hn0, en0⟩ := and_mask ls[i] 63 (by omega)
        have en0' : bits BinOp.and IntKind.i64 ls[i] 63 = (n0 : Int) := en0
        clear hh hbk hp hcell en0
        go_wp2_with fail
        go_meet
        exact ⟨n0, rfl, hn0, rfl⟩
      · have q3 : decide ((i : Int) < (ls.length : Int)) = false := decide_eq_false (by omega)
        have q3' : decide (i < ls.length) = false := decide_eq_false d1
        clear hh hbk hp
        go_wp2_with fail
        go_meet
        exact ⟨1, rfl, by omega, rfl⟩
    case rest =>
      obtain ⟨nn, rfl, hnn, rfl⟩ := hcut
      go_upto_region 14 with fail
      obtain ⟨wb, hwb⟩ : ∃ x : World, x = wc := ⟨wc, rfl⟩
      subst hwb
      go_cut [12] (fun v wx => v = .int .i64 ((min nn (a0.size - p) : Nat) : Int) ∧ wx = wb)
      case first =>
        clear hh hbk HF s2
        go_wp2_with fail
        all_goals
          go_meet
          exact ⟨val_int (by omega), rfl⟩
      case rest =>
      obtain ⟨rfl, rfl⟩ := hcut
      have hk1 : p + min nn (a0.size - p) ≤ a0.size := by omega
      have hk2 : p ≤ p + min nn (a0.size - p) := by omega
      generalize min nn (a0.size - p) = k at *
      have hfull : a0.data.toList.take p ++ (a0.extract p (p + k)).data.toList = a0.data.toList.take (p + k) := by rw [sub_bytes, List.take_add]
      have hpre : (a0.extract 0 (p + k)).data.toList = a0.data.toList.take (p + k) := by simp
      have hlen : (a0.data.toList.take p).length ≤ 600 := by rw [List.length_take, blen]; omega
      have htz : (a0.extract p (p + k)).size ≤ 600 := by rw [← blen, sub_bytes, List.length_take, List.length_drop, blen]; omega
      have hpz : (a0.extract 0 (p + k)).size ≤ 600 := by rw [← blen, hpre, List.length_take, blen]; omega
      obtain ⟨c', g, hr'⟩ := Im.run_exists (a0.data.toList.take (p + k)) m Im.start (Nat.zero_le _) (Nat.zero_le _)
      have hLw := hbl.size
      have HC := Lib.hid (grow_clone w.heap.size R bk m (a0.data.toList.take p) c wc hh.out hbk hLw)
      by_cases hg : g = 0
      · subst hg
        obtain ⟨og, hog⟩ := hh.out.run.more (t := (a0.extract p (p + k)).data.toList) (by rw [hfull]; exact hr')
        have hT : (⟨c.out.toArray⟩ : ByteArray) ++ ⟨(c'.out.drop c.out.length).toArray⟩ = ⟨c'.out.toArray⟩ := by
          apply bytes_ext
          rw [str_app, hog, List.drop_left]
        have HW := fun R2 bk2 w1 h1 h2 ha (hL : w.heap.size ≤ w1.heap.size) => Lib.hid (grow_ok w.heap.size R bk R2 bk2 m (a0.data.toList.take p) (a0.data.toList.take p) c c c' (a0.extract p (p + k)) w1 h1 h2 ha hL (by omega) (by rw [hfull]; exact hr'))
        have HLf := fun bk' R2 bk2 w2 h2 ha (hL : w.heap.size ≤ w2.heap.size) => Lib.hid (grow_left w.heap.size R bk' R2 bk2 m (a0.data.toList.take p) c ⟨#[255, 255, 255]⟩ w2 h2 ha hL (by have : (⟨#[255, 255, 255]⟩ : ByteArray).size = 3 := rfl; omega))
        have HX := fun w3 => Lib.hid (xrun_ok m (a0.extract 0 (p + k)) w3 c' (by omega) (by omega) (by rw [hpre]; exact hr'))
        rw [hfull] at HW
        replace hT := Lib.hid hT
        replace hr' := Lib.hid hr'
        replace hlen := Lib.hid hlen
        clear hh hog hfull hpre htz hpz hnn
        go_upto_region 25 with (first | (go_at_call 35; refine HC.out.mono ?_; rintro o w1 ⟨R2, bk2, rfl, h1, h2, ha, hb1⟩; clear HC; have hB1 := belThen hbl hb1) | (go_at_call 29; refine (HW R2 bk2 w1 h1 h2 ha hB1.size).out.mono ?_; rintro o w2 ⟨rfl, ⟨bk', h3, ha'⟩, h4, hb2⟩; clear HW; have hB2 := hB1.trans hb2) | (go_at_call 29; refine (HLf bk' R2 bk2 w2 h4 ha' hB2.size).out.mono ?_; rintro o w3 ⟨⟨v3, g3, rfl⟩, h5, _, hb3⟩; clear HLf; have hB3 := hB2.trans hb3; have h6 := h5 _ _ h3) | (go_at_call 36; refine (HX _).out.mono ?_; rintro o w4 ⟨n, rfl, hn, hb4⟩; clear HX; have hB4 := belThen hB3 hb4; have h7 := h6.below hb4))
        have hwt := hr'.out.went (Nat.zero_le _) (Nat.zero_le _)
        have hpl := hwt.1
        have hsum : (⟨c.out.toArray⟩ : ByteArray).size + (⟨(c'.out.drop c.out.length).toArray⟩ : ByteArray).size ≤ m := by
          have e1 := hwt.2.2.2.1 (Nat.zero_le _)
          rw [← str_size, hT.out, ← blen]; exact e1
        rw [List.length_take, blen] at hpl
        have hH := fun (w1 : World) (e1 : w1.heap = w4.heap) => (h7.heap e1).hist
        have HT4 : ∀ w1, w1.heap = w4.heap → Calls Try.prog 37 #[.pointer (some ⟨R, 0, none⟩)] w1 fun o w' => o = .returned (.int .i64 ((⟨c'.out.toArray⟩ : ByteArray).size : Int)) ∧ w' = w1 := fun w1 e1 => (hist_told R 0 m _ c' w1 (hH w1 e1)).mono fun o w' ⟨q1, q2⟩ => ⟨q1, q2.symm⟩
        have HD4 := fun (w1 : World) e1 => (hist_done R 0 m _ c' w1 (hH w1 e1)).mono (R' := fun o w' => o = .returned (.bool (decide (c'.state = 3))) ∧ w' = w1) fun o w' ⟨q1, q2⟩ => ⟨q1, q2.symm⟩
        have HREL : Hid (∀ nq, GrowAt w R m a0.data.toList (.int .i64 ((p : Int) + (k : Int))) (.string ⟨c'.out.toArray⟩) (w4.drewN nq)) := Lib.hid fun nq => ⟨p + k, bk', c', by rw [blen]; exact hk1, by simp, h7.below (below_drewN (Below.refl _ _) nq), rfl, ha'.own, below_drewN hB4 nq⟩
        have HR5 := fun (w1 : World) e1 => hist_rest R 0 m _ c' w1 (hH w1 e1)
        clear hH h1 h2 h3 h4 h5 h6 h7 ha ha' hb1 hb2 hb3 hb4 hB1 hB2 hB3 hwt hr'
        go_upto_region 26 with fail
        rw [hT.out]
        generalize hBB : (⟨c'.out.toArray⟩ : ByteArray) = BB at *
        by_cases h3 : c'.state = 3
        · have hn3 := hn h3
          have hnp : n ≤ p + k := by omega
          have HR4 : ∀ w1, w1.heap = w4.heap → Calls Try.prog 31 #[.pointer (some ⟨R, 0, none⟩)] w1 fun o w' => o = .returned (.string (a0.extract n (p + k))) ∧ w' = w1 := fun w1 e1 => (HR5 w1 e1).mono fun o w' ⟨q1, q2⟩ => ⟨by
            rw [q1, if_pos h3, ← hn3]
            congr 2
            have e2 : (List.drop n (List.take (p + k) a0.data.toList)) = (a0.extract n (p + k)).data.toList := by rw [List.drop_take]; simp
            rw [e2], q2.symm⟩
          simp only [decide_eq_true h3] at HD4 ⊢
          clear HR5 hn hn3 hpl h3 hBB hT
          go_quiet (first | (go_at_call 37; exact Calls.quiet_of_same (HT4 _ rfl)) | (go_at_call 30; exact Calls.quiet_of_same (HD4 _ rfl)) | (go_at_call 31; exact Calls.quiet_of_same (HR4 _ rfl)))
          go_wp2
          go_roundw
          case rel => exact ⟨i + 1, by go_num, by omega, HREL.out _⟩
          case measure => simp [intOf]; omega
        · have HR4 : ∀ w1, w1.heap = w4.heap → Calls Try.prog 31 #[.pointer (some ⟨R, 0, none⟩)] w1 fun o w' => o = .returned (.string ⟨#[]⟩) ∧ w' = w1 := fun w1 e1 => (HR5 w1 e1).mono fun o w' ⟨q1, q2⟩ => ⟨by
            rw [q1, if_neg h3], q2.symm⟩
          simp only [decide_eq_false h3] at HD4 ⊢
          clear HR5 hn hpl h3 hBB hT
          go_quiet (first | (go_at_call 37; exact Calls.quiet_of_same (HT4 _ rfl)) | (go_at_call 30; exact Calls.quiet_of_same (HD4 _ rfl)) | (go_at_call 31; exact Calls.quiet_of_same (HR4 _ rfl)))
          go_wp2
          go_roundw
          case rel => exact ⟨i + 1, by go_num, by omega, HREL.out _⟩
          case measure => simp [intOf]; omega
      · have hgb : (g != 0) = true := by simpa using hg
        have HW := fun R2 bk2 w1 h1 h2 ha (hL : w.heap.size ≤ w1.heap.size) => Lib.hid (grow_bad w.heap.size R bk R2 bk2 m (a0.data.toList.take p) (a0.data.toList.take p) c c c' g (a0.extract p (p + k)) w1 h1 h2 ha hL (by omega) (by rw [hfull]; exact hr') hg)
        have HLf := fun R2 bk2 w2 h2 ha (hL : w.heap.size ≤ w2.heap.size) => Lib.hid (grow_left w.heap.size R bk R2 bk2 m (a0.data.toList.take p) c ⟨#[255, 255, 255]⟩ w2 h2 ha hL (by have : (⟨#[255, 255, 255]⟩ : ByteArray).size = 3 := rfl; omega))
        have HX := fun w3 => Lib.hid (xrun_bad m (a0.extract 0 (p + k)) w3 c' g hg (by omega) (by omega) (by rw [hpre]; exact hr'))
        have HBW := fun w4 h => Lib.hid (broken_write R g ⟨#[109, 111, 114, 101]⟩ w4 h hg)
        have HBD := fun w4 h => Lib.hid (broken_done R g w4 h hg)
        have HBR := fun w4 h => Lib.hid (broken_rest R g w4 h hg)
        have hbel : ∀ w3 w4, Broken w3 R g → Below w3.heap.size w3 w4 → Broken w4 R g := fun w3 w4 ⟨r, q1, q2⟩ hb => ⟨r, q1.below hb, q2⟩
        clear hh hr' hfull hpre htz hpz hnn hg hlen
        go_wp2_with (first | (go_at_call 35; refine HC.out.mono ?_; rintro o w1 ⟨R2, bk2, rfl, h1, h2, ha, hb1⟩; clear HC; have hB1 := belThen hbl hb1) | (go_at_call 29; refine (HW R2 bk2 w1 h1 h2 ha hB1.size).out.mono ?_; rintro o w2 ⟨rfl, h3, h4, hb2⟩; clear HW; have hB2 := hB1.trans hb2) | (go_at_call 29; refine (HLf R2 bk2 w2 h4 ha hB2.size).out.mono ?_; rintro o w3 ⟨⟨v3, g3, rfl⟩, _, h5, hb3⟩; clear HLf; have hB3 := hB2.trans hb3; have h6 := h5 _ h3) | (go_at_call 36; refine (HX _).out.mono ?_; rintro o w4 ⟨n, rfl, hb4⟩; clear HX; have hB4 := belThen hB3 hb4; have h7 := hbel _ _ h6 hb4) | (go_at_call 29; refine (HBW _ h7).out.mono ?_; rintro o w5 ⟨rfl, h8, hb5⟩; clear HBW; have hB5 := belThen hB4 hb5) | (go_at_call 30; refine (HBD _ h8).out.mono ?_; rintro o w6 ⟨rfl, rfl⟩) | (go_at_call 31; refine (HBR _ h8).out.mono ?_; rintro o w6 ⟨rfl, rfl⟩) | (go_at_call 25; refine (HF _).out.mono ?_; rintro e w' ⟨rfl, hb⟩))
        go_ret
        exact ⟨rfl, belThen hB5 hb⟩
end Go.Proofs.Ytcjcmlnbchmnnaa
