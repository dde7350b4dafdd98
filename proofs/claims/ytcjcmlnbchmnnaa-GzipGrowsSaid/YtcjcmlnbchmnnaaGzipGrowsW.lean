/- farrierlaw10.GzipGrows: the walk. -/
import Derived.Test.YtcjcmlnbchmnnaaRRun
import Derived.Test.YtcjcmlnbchmnnaaGClone
import Derived.Test.YtcjcmlnbchmnnaaGCuts
import Derived.Deep.RegionHeld3
import Derived.BigQuiet
namespace Go.Proofs.Ytcjcmlnbchmnnaa
open Go.RowKit

/-- so many bytes are written, byte by byte or piece by piece -/
def GGrowAt (w0 : World) (G most : Nat) (S : List UInt8) (at' told : Value) (w : World) : Prop :=
  ∃ p R bk out fin, p ≤ S.length ∧ at' = .int .i64 (p : Int) ∧ GzAt w G R bk most (S.take p) out fin ∧ told = .string ⟨out.toArray⟩ ∧ (∀ k, Own2 G R bk k → w0.heap.size ≤ k) ∧ Below w0.heap.size w0 w
theorem sub_bytes (s : ByteArray) (p n : Nat) : (s.extract p (p + n)).data.toList = (s.data.toList.drop p).take n := by
  simp [List.take_drop]
set_option maxHeartbeats 4000000 in
set_option maxRecDepth 100000 in
theorem walk_GzipGrows (a0 : ByteArray) (a1 : Int) (a2 : Option Addr) (cap2 : Nat) (ls : List Int) (w : World) (z0 : a0.size ≤ 140737488351232) (_w1 : (Lit.int .i64 a1).wf = true) (s2 : SInts w a2 ls) (_m2 : ls.length ≤ maxLen) (_f2 : ∀ n ∈ ls, (Lit.int .i64 n).wf = true) :
    Calls Try.prog 4 #[.string a0, .int .i64 a1, .slice a2 ls.length cap2] w fun e w' => e = .returned (.bool true) ∧ Below w.heap.size w w' := by
  have HF := fun w => Lib.hid (fixed10 w)
  by_cases h5 : 600 < a0.size
  · have q : decide ((600 : Int) < (a0.size : Int)) = true := by simp; omega
    go_enter Try.func4, Try.ntmps4
    go_wp2_with (go_at_call 14; refine (HF _).out.mono ?_; rintro e w' ⟨rfl, hb⟩)
    go_ret
    exact ⟨rfl, hb⟩
  have q : decide ((600 : Int) < (a0.size : Int)) = false := by simp; omega
  have HB := Lib.hid (bound10 a1 w)
  have hmo : min a1 200000 ≤ 200000 := Int.min_le_right _ _
  generalize min a1 200000 = mo at *
  by_cases hneg : mo < 0
  · have H2 := Lib.hid (gnew_no mo w hneg)
    have q2 : decide (mo < 0) = true := decide_eq_true hneg
    clear hneg hmo
    go_enter Try.func4, Try.ntmps4
    go_wp2_with (first | (go_at_call 18; refine HB.out.mono ?_; rintro e w' ⟨rfl, rfl⟩) | (go_at_call 19; refine H2.out.mono ?_; rintro e w' ⟨rfl, rfl⟩) | (go_at_call 14; refine (HF _).out.mono ?_; rintro e w' ⟨rfl, hb⟩))
    go_ret
    exact ⟨rfl, hb⟩
  obtain ⟨m, rfl⟩ := Int.eq_ofNat_of_zero_le (show 0 ≤ mo by omega)
  have hm : m ≤ 200000 := by omega
  clear hneg hmo
  have H2 := Lib.hid (gnew_yes m w (by omega))
  have hz : a0.size ≤ 600 := by omega
  clear h5
  go_enter Try.func4, Try.ntmps4
  go_upto_region 7 with (first | (go_at_call 18; refine HB.out.mono ?_; rintro e w' ⟨rfl, rfl⟩) | (go_at_call 19; refine H2.out.mono ?_; rintro e w2 ⟨G, rfl, ⟨R0, bk0, h2, y1, y2, y3⟩, hb2⟩; clear H2))
  have hS0 : GGrowAt w G m a0.data.toList (.int .i64 0) (.string ⟨#[]⟩) w2 := ⟨0, R0, bk0, [], none, Nat.zero_le _, rfl, h2, rfl, (by
    rintro k (rfl | rfl | hk)
    · exact y1
    · exact y2
    · exact y3 k hk), hb2⟩
  clear h2 hb2 y1 y2 y3
  go_wp2_with fail
  go_loopw [9, 10, 11] (fun v1 v2 i wr => ∃ k : Nat, i = .int .i64 k ∧ k ≤ 100 ∧ GGrowAt w G m a0.data.toList v1 v2 wr) (fun _ _ i _ => 100 - (intOf i).toNat)
  case atStart => exact ⟨0, rfl, by omega, hS0⟩
  case round =>
    clear hS0
    obtain ⟨i, rfl, hi, p, R, bk, out, fin, hp, rfl, hh, rfl, hbk, hbl⟩ := hrel
    rw [blen] at hp
    have hfin : Below w.heap.size w wr := hbl
    by_cases c1 : p < a0.size
    rotate_left
    · have q1 : decide ((p : Int) < (a0.size : Int)) = false := decide_eq_false (by omega)
      have q1' : decide (p < a0.size) = false := decide_eq_false (by omega)
      clear hh hbk hp c1
      go_wp2_with (go_at_call 14; refine (HF _).out.mono ?_; rintro e w' ⟨rfl, hb⟩)
      go_ret
      exact ⟨rfl, belThen hfin hb⟩
    have q1 : decide ((p : Int) < (a0.size : Int)) = true := decide_eq_true (by omega)
    have q1' : decide (p < a0.size) = true := decide_eq_true (by omega)
    by_cases c2 : i < 100
    rotate_left
    · have q2 : decide ((i : Int) < 100) = false := decide_eq_false (by omega)
      clear hh hbk hp c1 c2
      go_wp2_with (go_at_call 14; refine (HF _).out.mono ?_; rintro e w' ⟨rfl, hb⟩)
      go_ret
      exact ⟨rfl, belThen hfin hb⟩
    have q2 : decide ((i : Int) < 100) = true := decide_eq_true (by omega)
    clear hfin
    replace hh := Lib.hid hh
    go_upto_if 61 with fail
    go_cut [12] (fun v wx => ∃ nn : Nat, v = .int .i64 (nn : Int) ∧ nn ≤ 63 ∧ wx = wr)
    case first =>
      by_cases d1 : i < ls.length
      · have q3 : decide ((i : Int) < (ls.length : Int)) = true := decide_eq_true (by omega)
        have q3' : decide (i < ls.length) = true := decide_eq_true d1
        obtain ⟨bb, oo', hidx, hcell, hblt⟩ := s2.at i ls[i] (List.getElem?_eq_getElem d1) cap2
        have hcw : wr.cell? ⟨bb, oo', none⟩ = some (.int .i64 ls[i]) := by rw [hbl.cell (p := ⟨bb, oo', none⟩) hblt]; exact hcell
        obtain ⟨n0, hn0, en0⟩ := and_mask ls[i] 63 (by omega)
        have en0' : bits BinOp.and IntKind.i64 ls[i] 63 = (n0 : Int) := en0
        clear hh hbk hp hcell en0
        go_wp2_with fail
        go_meet
        exact ⟨n0, rfl, hn0, rfl⟩
      · have q3 : decide ((i : Int) < (ls.length : Int)) = false := decide_eq_false (by omega)
        have q3' : decide (i < ls.length) = false := decide_eq_false d1
        clear hh hbk hp
        go_wp2_with fail
        go_meet
        exact ⟨1, rfl, by omega, rfl⟩
    case rest =>
      obtain ⟨nn, rfl, hnn, rfl⟩ := hcut
      go_upto_region 14 with fail
      obtain ⟨wb, hwb⟩ : ∃ x : World, x = wc := ⟨wc, rfl⟩
      subst hwb
      go_cut [12] (fun v wx => v = .int .i64 ((min nn (a0.size - p) : Nat) : Int) ∧ wx = wb)
      case first =>
        clear hh hbk HF s2
        go_wp2_with fail
        all_goals
          go_meet
          exact ⟨val_int (by omega), rfl⟩
      case rest =>
      obtain ⟨rfl, rfl⟩ := hcut
      have hk1 : p + min nn (a0.size - p) ≤ a0.size := by omega
      have hk2 : p ≤ p + min nn (a0.size - p) := by omega
      generalize min nn (a0.size - p) = k at *
      have hfull : a0.data.toList.take p ++ (a0.extract p (p + k)).data.toList = a0.data.toList.take (p + k) := by rw [sub_bytes, List.take_add]
      have hpre : (a0.extract 0 (p + k)).data.toList = a0.data.toList.take (p + k) := by simp
      have hlen : (a0.data.toList.take p).length ≤ 600 := by rw [List.length_take, blen]; omega
      have htz : (a0.extract p (p + k)).size ≤ 600 := by rw [← blen, sub_bytes, List.length_take, List.length_drop, blen]; omega
      have hpz : (a0.extract 0 (p + k)).size ≤ 600 := by rw [← blen, hpre, List.length_take, blen]; omega
      obtain ⟨out', g, fin', hr'⟩ := gz_exists (a0.data.toList.take (p + k)) m
      have hLw := hbl.size
      have HC := Lib.hid (ggrow_clone w.heap.size G R bk m (a0.data.toList.take p) out fin wc hh.out hbk hLw)
      by_cases hg : g = 0
      · subst hg
        obtain ⟨og, hog⟩ := gz_grows (t := (a0.extract p (p + k)).data.toList) hh.out.run (by rw [hfull]; exact hr')
        have hT : (⟨out.toArray⟩ : ByteArray) ++ ⟨(out'.drop out.length).toArray⟩ = ⟨out'.toArray⟩ := by
          apply bytes_ext
          rw [str_app, hog, List.drop_left]
        have HW := fun G2 R2 bk2 w1 h1 h2 ha (hL : w.heap.size ≤ w1.heap.size) => Lib.hid (ggrow_ok w.heap.size G R bk G2 R2 bk2 m (a0.data.toList.take p) (a0.data.toList.take p) out out out' fin fin fin' (a0.extract p (p + k)) w1 h1 h2 ha hL (by omega) (by rw [hfull]; exact hr'))
        have HLf := fun bk' G2 R2 bk2 w2 h2 ha (hL : w.heap.size ≤ w2.heap.size) => Lib.hid (ggrow_left w.heap.size G R bk' G2 R2 bk2 m (a0.data.toList.take p) out fin ⟨#[255, 255, 255]⟩ w2 h2 ha hL (by have : (⟨#[255, 255, 255]⟩ : ByteArray).size = 3 := rfl; omega))
        have HX := fun w3 => Lib.hid (xgrun_go m (a0.extract 0 (p + k)) w3 out' 0 fin' (by omega) (by omega) (by rw [hpre]; exact hr'))
        unfold XGIn at HX
        rw [hfull] at HW
        replace hT := Lib.hid hT
        replace hr' := Lib.hid hr'
        replace hlen := Lib.hid hlen
        clear hh hog hfull hpre htz hpz hnn
        go_upto_region 25 with (first | (go_at_call 20; refine HC.out.mono ?_; rintro o w1 ⟨G2, R2, bk2, rfl, h1, h2, ha, hb1⟩; clear HC; have hB1 := belThen hbl hb1) | (go_at_call 21; refine (HW G2 R2 bk2 w1 h1 h2 ha hB1.size).out.mono ?_; rintro o w2 ⟨rfl, ⟨bk', h3, ha'⟩, h4, hb2⟩; clear HW; have hB2 := hB1.trans hb2) | (go_at_call 21; refine (HLf bk' G2 R2 bk2 w2 h4 ha' hB2.size).out.mono ?_; rintro o w3 ⟨⟨v3, g3, rfl⟩, h5, _, hb3⟩; clear HLf; have hB3 := hB2.trans hb3; have h6 := h5 _ _ _ h3) | (go_at_call 22; refine (HX _).out.mono ?_; rintro o w4 ⟨rfl, hb4⟩; clear HX; have hB4 := belThen hB3 hb4; have h7 := h6.below hb4))
        have hsum : (⟨out.toArray⟩ : ByteArray).size + (⟨(out'.drop out.length).toArray⟩ : ByteArray).size ≤ m := by
          rw [← str_size, hT.out, ← blen]; exact gz_out hr'.out
        have hH := fun (w1 : World) (e1 : w1.heap = w4.heap) => (h7.heap e1).in
        have HD4 := fun (w1 : World) e1 => (gin_done G 0 m _ out' fin' w1 (hH w1 e1)).mono (R' := fun o w' => o = .returned (.bool fin'.isSome) ∧ w' = w1) fun o w' ⟨q1, q2⟩ => ⟨q1, q2.symm⟩
        have HREL : Hid (∀ nq, GGrowAt w G m a0.data.toList (.int .i64 ((p : Int) + (k : Int))) (.string ⟨out'.toArray⟩) (w4.drewN nq)) := Lib.hid fun nq => ⟨p + k, R, bk', out', fin', by rw [blen]; exact hk1, by simp, h7.below (below_drewN (Below.refl _ _) nq), rfl, ha'.own, below_drewN hB4 nq⟩
        have HR5 := fun (w1 : World) e1 => gin_rest G 0 m _ out' fin' w1 (hH w1 e1)
        have hfk := fun n (e : fin' = some n) => (gz_fin (k := n) (by rw [← e]; exact hr'.out)).2
        clear hH h1 h2 h3 h4 h5 h6 h7 ha ha' hb1 hb2 hb3 hb4 hB1 hB2 hB3 hr'
        go_upto_region 26 with fail
        rw [hT.out]
        generalize hBB : (⟨out'.toArray⟩ : ByteArray) = BB at *
        cases fin' with
        | some n =>
          have hnp := hfk n rfl
          rw [List.length_take, blen] at hnp
          have hnp' : n ≤ p + k := by omega
          have HR4 : ∀ w1, w1.heap = w4.heap → Calls Try.prog 24 #[.pointer (some ⟨G, 0, none⟩)] w1 fun o w' => o = .returned (.string (a0.extract n (p + k))) ∧ w' = w1 := fun w1 e1 => (HR5 w1 e1).mono fun o w' ⟨q1, q2⟩ => ⟨by
            rw [q1]
            dsimp only
            congr 2
            have e2 : (List.drop n (List.take (p + k) a0.data.toList)) = (a0.extract n (p + k)).data.toList := by rw [List.drop_take]; simp
            rw [e2], q2.symm⟩
          simp only [Option.isSome_some, Option.getD_some] at HD4 ⊢
          clear HR5 hfk hnp hBB hT
          go_quiet (first | (go_at_call 23; exact Calls.quiet_of_same (HD4 _ rfl)) | (go_at_call 24; exact Calls.quiet_of_same (HR4 _ rfl)))
          go_wp2
          go_roundw
          case rel => exact ⟨i + 1, by go_num, by omega, HREL.out _⟩
          case measure => simp [intOf]; omega
        | none =>
          have HR4 : ∀ w1, w1.heap = w4.heap → Calls Try.prog 24 #[.pointer (some ⟨G, 0, none⟩)] w1 fun o w' => o = .returned (.string ⟨#[]⟩) ∧ w' = w1 := fun w1 e1 => (HR5 w1 e1).mono fun o w' ⟨q1, q2⟩ => ⟨q1, q2.symm⟩
          simp only [Option.isSome_none, Option.getD_none] at HD4 ⊢
          clear HR5 hfk hBB hT
          go_quiet (first | (go_at_call 23; exact Calls.quiet_of_same (HD4 _ rfl)) | (go_at_call 24; exact Calls.quiet_of_same (HR4 _ rfl)))
          go_wp2
          go_roundw
          case rel => exact ⟨i + 1, by go_num, by omega, HREL.out _⟩
          case measure => simp [intOf]; omega
      · have hgb : (g != 0) = true := by simpa using hg
        have HW := fun G2 R2 bk2 w1 h1 h2 ha (hL : w.heap.size ≤ w1.heap.size) => Lib.hid (ggrow_bad w.heap.size G R bk G2 R2 bk2 m (a0.data.toList.take p) (a0.data.toList.take p) out out out' fin fin fin' g (a0.extract p (p + k)) w1 h1 h2 ha hL (by omega) (by rw [hfull]; exact hr') hg)
        have HLf := fun G2 R2 bk2 w2 h2 ha (hL : w.heap.size ≤ w2.heap.size) => Lib.hid (ggrow_left w.heap.size G R bk G2 R2 bk2 m (a0.data.toList.take p) out fin ⟨#[255, 255, 255]⟩ w2 h2 ha hL (by have : (⟨#[255, 255, 255]⟩ : ByteArray).size = 3 := rfl; omega))
        have HX := fun w3 => Lib.hid (xgrun_go m (a0.extract 0 (p + k)) w3 out' g fin' (by omega) (by omega) (by rw [hpre]; exact hr'))
        unfold XGIn at HX
        have HBW := fun w4 h => Lib.hid (gbroken_write G g ⟨#[109, 111, 114, 101]⟩ w4 h hg)
        have HBD := fun w4 h => Lib.hid (gbroken_done G g w4 h hg)
        have HBR := fun w4 h => Lib.hid (gbroken_rest G g w4 h hg)
        have hbel : ∀ w3 w4, GBroken w3 G g → Below w3.heap.size w3 w4 → GBroken w4 G g := fun w3 w4 q hb => q.below hb
        generalize fin'.getD 0 = n9 at *
        generalize fin'.isSome = b9 at *
        clear hh hr' hfull hpre htz hpz hnn hg hlen
        go_wp2_with (first | (go_at_call 20; refine HC.out.mono ?_; rintro o w1 ⟨G2, R2, bk2, rfl, h1, h2, ha, hb1⟩; clear HC; have hB1 := belThen hbl hb1) | (go_at_call 21; refine (HW G2 R2 bk2 w1 h1 h2 ha hB1.size).out.mono ?_; rintro o w2 ⟨rfl, h3, h4, hb2⟩; clear HW; have hB2 := hB1.trans hb2) | (go_at_call 21; refine (HLf G2 R2 bk2 w2 h4 ha hB2.size).out.mono ?_; rintro o w3 ⟨⟨v3, g3, rfl⟩, _, h5, hb3⟩; clear HLf; have hB3 := hB2.trans hb3; have h6 := h5 _ h3) | (go_at_call 22; refine (HX _).out.mono ?_; rintro o w4 ⟨rfl, hb4⟩; clear HX; have hB4 := belThen hB3 hb4; have h7 := hbel _ _ h6 hb4) | (go_at_call 21; refine (HBW _ h7).out.mono ?_; rintro o w5 ⟨rfl, h8, hb5⟩; clear HBW; have hB5 := belThen hB4 hb5) | (go_at_call 23; refine (HBD _ h8).out.mono ?_; rintro o w6 ⟨rfl, rfl⟩) | (go_at_call 24; refine (HBR _ h8).out.mono ?_; rintro o w6 ⟨rfl, rfl⟩) | (go_at_call 14; refine (HF _).out.mono ?_; rintro e w' ⟨rfl, hb⟩))
        go_ret
        exact ⟨rfl, belThen hB5 hb⟩
end Go.Proofs.Ytcjcmlnbchmnnaa
