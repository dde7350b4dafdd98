/- farrierlaw09.InflateCuts: the walk. -/
import Derived.Test.YtcjcmlnbchmnnaaIFixed9
import Derived.Deep.RegionHeld3
import Derived.Test.YtcjcmlnbchmnnaaWords
namespace Go.Proofs.Ytcjcmlnbchmnnaa
open Go.RowKit

theorem bound9 (a : Int) (w : World) : Calls Try.prog 26 #[.int .i64 a] w fun e w' => e = .returned (.int .i64 (min a 200000)) ∧ w = w' := by
  go_enter Try.func26, Try.ntmps26
  go_wp2
  all_goals
    go_ret
    exact ⟨ret_int (by omega), rfl⟩
theorem Im.Run.grows {full t : List UInt8} {most : Nat} {b c : Im.St} {e : Int} (h : Im.Run full most Im.start b 0) (h2 : Im.Run (full ++ t) most Im.start c e) : ∃ o, c.out = b.out ++ o := by
  have hb := h.went (Nat.zero_le _) (Nat.zero_le _)
  obtain ⟨c', e', h3⟩ := Im.run_exists (full ++ t) most b (by rw [List.length_append]; have := hb.1; omega) hb.2.2.2.2.2
  obtain ⟨rfl, rfl⟩ := (h.then t rfl h3).det h2
  exact (h3.went (by rw [List.length_append]; have := hb.1; omega) hb.2.2.2.2.2).2.2.1
/-- what was told and what is left, where some of the bytes are written -/
def CutAt (w0 : World) (R L most : Nat) (S : List UInt8) (told rest : Value) (w : World) : Prop :=
  ∃ p c ts rs, p ≤ S.length ∧ Hist w R L most (S.take p) c ∧ told = .string ts ∧ ts.data.toList = c.out ∧ rest = .string rs ∧ rs.data.toList = S.drop p ∧ Below w0.heap.size w0 w
theorem Hist.run {w : World} {R L most : Nat} {full : List UInt8} {c : Im.St} (h : Hist w R L most full c) : Im.Run full most Im.start c 0 := by obtain ⟨r, a, k, _, _, _, _, _, hx, _⟩ := h; exact hx
theorem Hist.lt {w : World} {R L most : Nat} {full : List UInt8} {c : Im.St} (h : Hist w R L most full c) : L ≤ R ∧ R < w.heap.size := by obtain ⟨r, a, k, hr, _, _, _, _, _, hL, _⟩ := h; exact ⟨hL, hr.st.at_.lt⟩
theorem bytes_eq {a : ByteArray} {l : List UInt8} (h : a.data.toList = l) : a = ⟨l.toArray⟩ := by subst h; rfl
theorem bytes_same (a : ByteArray) : (⟨a.data.toList.toArray⟩ : ByteArray) = a := rfl
theorem TabAt.below {w w' : World} {v : Value} {ns : List Nat} (h : TabAt w v ns) (hb : Below w.heap.size w w') : TabAt w' v ns := by
  obtain ⟨T, h1, h2, h3⟩ := h
  exact ⟨T, h1, h2.below hb, h3⟩
theorem Rests.below {w w' : World} {R most : Nat} {r : Rd} {a : Im.St} (h : Rests w R r most a) (hb : Below w.heap.size w w') : Rests w' R r most a :=
  ⟨{ at_ := h.st.at_.below hb, bit := h.st.bit, state := h.st.state, last := h.st.last, left := h.st.left, told := h.st.told, most_ := h.st.most_, e := h.st.e, out := ⟨[], by simp, by rw [h.out]; exact OutAt.nil _ _⟩, back := ⟨h.st.back.1.below hb, fun k hk => Nat.lt_of_lt_of_le (h.st.back.2 k hk) hb.size⟩, tabs := fun e => ⟨(h.st.tabs e).1.below hb, (h.st.tabs e).2.below hb⟩, base := Nat.le_refl _, pos_le := h.st.pos_le, size_le := h.st.size_le, out_le := h.st.out_le, most_le := h.st.most_le, left_le := h.st.left_le, state_le := h.st.state_le, one := h.st.one }, h.out⟩
theorem Hist.below {w w' : World} {R L most : Nat} {full : List UInt8} {c : Im.St} (h : Hist w R L most full c) (hb : Below w.heap.size w w') : Hist w' R L most full c := by
  obtain ⟨r, a, k, hr, h1⟩ := h
  exact ⟨r, a, k, hr.below hb, h1⟩
def cutO (og : List UInt8) : Ending := .returned (.tuple #[.string ⟨og.toArray⟩, .int .i64 0])
def cutE (g : Int) : Ending := .returned (.tuple #[.string ⟨#[]⟩, .int .i64 g])
theorem pre_take (rs : ByteArray) (n : Nat) : (rs.extract 0 n).data.toList = rs.data.toList.take n := by simp
/-- a piece is written -/
theorem cut_step (w0 : World) (R m : Nat) (S : List UInt8) (c : Im.St) (e : Int) (hrun : Im.Run S m Im.start c e) (hS : S.length ≤ 140737488351232) (hR : w0.heap.size ≤ R) (p : Nat) (cc : Im.St) (ts rs : ByteArray) (w : World) (n : Nat)
    (hp : p ≤ S.length) (hh : Hist w R R m (S.take p) cc) (hts : ts.data.toList = cc.out) (hrs : rs.data.toList = S.drop p) (hb : Below w0.heap.size w0 w) (hn : n ≤ rs.size) :
    (∃ og, ts.size + (ByteArray.mk og.toArray).size ≤ m ∧ Calls Try.prog 29 #[.pointer (some ⟨R, 0, none⟩), .string (rs.extract 0 n)] w fun o w' => o = cutO og ∧ CutAt w0 R R m S (.string (ts ++ ⟨og.toArray⟩)) (.string (rs.extract n rs.size)) w') ∨
    (oneE c e ≠ 0 ∧ Calls Try.prog 29 #[.pointer (some ⟨R, 0, none⟩), .string (rs.extract 0 n)] w fun o w' => o = cutE (oneE c e) ∧ Below w0.heap.size w0 w') := by
  have hrl : rs.size = S.length - p := by rw [← blen rs, hrs, List.length_drop]
  have hfull : S.take p ++ (rs.extract 0 n).data.toList = S.take (p + n) := by rw [pre_take, hrs, List.take_add]
  have hsz : (S.take p).length + (rs.extract 0 n).size ≤ 281474976710656 := by rw [← blen, pre_take, List.length_take, List.length_take, blen]; omega
  obtain ⟨c', g, hr'⟩ := Im.run_exists (S.take (p + n)) m Im.start (Nat.zero_le _) (Nat.zero_le _)
  by_cases hg : g = 0
  · subst hg
    obtain ⟨og, hog⟩ := hh.run.grows (t := (rs.extract 0 n).data.toList) (by rw [hfull]; exact hr')
    have hol := (hr'.went (Nat.zero_le _) (Nat.zero_le _)).2.2.2.1 (Nat.zero_le _)
    refine .inl ⟨og, by rw [hog, List.length_append] at hol; rw [← blen ts, hts, ← blen]; exact hol, (hist_write_ok R R m (S.take p) cc c' (rs.extract 0 n) w hh (Nat.le_of_lt hh.lt.2) hsz (by rw [hfull]; exact hr')).mono ?_⟩
    rintro o w' ⟨ho, h3, hb3⟩
    rw [hfull] at h3
    refine ⟨by rw [ho, hog, List.drop_left]; rfl, p + n, c', _, _, by omega, h3, rfl, ?_, rfl, ?_, hb.trans (hb3.mono hR)⟩
    · rw [str_app, hts, hog]
    · rw [ext_list, hrs, List.drop_drop]
  · have hw : Im.Run (S.take (p + n) ++ S.drop (p + n)) m Im.start c' g := hr'.wrong _ hg
    rw [List.take_append_drop] at hw
    obtain ⟨rfl, rfl⟩ := hw.det hrun
    have he : oneE c' g = g := if_pos hg
    refine .inr ⟨by rw [he]; exact hg, (hist_write_bad R R m (S.take p) cc c' g (rs.extract 0 n) w hh (Nat.le_of_lt hh.lt.2) hsz (by rw [hfull]; exact hr') hg).mono ?_⟩
    rintro o w' ⟨ho, _, hb3⟩
    exact ⟨by rw [ho, he]; rfl, hb.trans (hb3.mono hR)⟩
/-- the last piece is written -/
theorem cut_last (w0 : World) (R m : Nat) (S : List UInt8) (c : Im.St) (e : Int) (hrun : Im.Run S m Im.start c e) (hS : S.length ≤ 140737488351232) (hR : w0.heap.size ≤ R) (p : Nat) (cc : Im.St) (ts rs : ByteArray) (w : World)
    (hp : p ≤ S.length) (hh : Hist w R R m (S.take p) cc) (hts : ts.data.toList = cc.out) (hrs : rs.data.toList = S.drop p) (hb : Below w0.heap.size w0 w) :
    (e = 0 ∧ ∃ og, ts.size + (ByteArray.mk og.toArray).size ≤ m ∧ (ts ++ (⟨og.toArray⟩ : ByteArray)).data.toList = c.out ∧ Calls Try.prog 29 #[.pointer (some ⟨R, 0, none⟩), .string rs] w fun o w' => o = cutO og ∧ Hist w' R R m S c ∧ Below w0.heap.size w0 w') ∨
    (oneE c e ≠ 0 ∧ Calls Try.prog 29 #[.pointer (some ⟨R, 0, none⟩), .string rs] w fun o w' => o = cutE (oneE c e) ∧ Below w0.heap.size w0 w') := by
  have hrl : rs.size = S.length - p := by rw [← blen rs, hrs, List.length_drop]
  have hfull : S.take p ++ rs.data.toList = S := by rw [hrs, List.take_append_drop]
  have hsz : (S.take p).length + rs.size ≤ 281474976710656 := by rw [List.length_take]; omega
  by_cases hg : e = 0
  · subst hg
    obtain ⟨og, hog⟩ := hh.run.grows (t := rs.data.toList) (by rw [hfull]; exact hrun)
    have hol := (hrun.went (Nat.zero_le _) (Nat.zero_le _)).2.2.2.1 (Nat.zero_le _)
    refine .inl ⟨rfl, og, by rw [hog, List.length_append] at hol; rw [← blen ts, hts, ← blen]; exact hol, by rw [str_app, hts, hog], (hist_write_ok R R m (S.take p) cc c rs w hh (Nat.le_of_lt hh.lt.2) hsz (by rw [hfull]; exact hrun)).mono ?_⟩
    rintro o w' ⟨ho, h3, hb3⟩
    rw [hfull] at h3
    exact ⟨by rw [ho, hog, List.drop_left]; rfl, h3, hb.trans (hb3.mono hR)⟩
  · have he : oneE c e = e := if_pos hg
    refine .inr ⟨by rw [he]; exact hg, (hist_write_bad R R m (S.take p) cc c e rs w hh (Nat.le_of_lt hh.lt.2) hsz (by rw [hfull]; exact hrun) hg).mono ?_⟩
    rintro o w' ⟨ho, _, hb3⟩
    exact ⟨by rw [ho, he]; rfl, hb.trans (hb3.mono hR)⟩
set_option maxHeartbeats 4000000 in
set_option maxRecDepth 100000 in
theorem walk_InflateCuts (a0 : ByteArray) (a1 : Int) (a2 : Option Addr) (cap2 : Nat) (ls : List Int) (w : World) (z0 : a0.size ≤ 140737488351232) (_w1 : (Lit.int .i64 a1).wf = true) (s2 : SInts w a2 ls) (_m2 : ls.length ≤ maxLen) (_f2 : ∀ n ∈ ls, (Lit.int .i64 n).wf = true) :
    Calls Try.prog 5 #[.string a0, .int .i64 a1, .slice a2 ls.length cap2] w fun e w' => e = .returned (.bool true) ∧ Below w.heap.size w w' := by
  have HF := fun w => Lib.hid (fixed9 w)
  by_cases h5 : 20000 < a0.size
  · have q : decide ((20000 : Int) < (a0.size : Int)) = true := by simp; omega
    go_enter Try.func5, Try.ntmps5
    go_wp2_with (go_at_call 25; refine (HF _).out.mono ?_; rintro e w' ⟨rfl, hb⟩)
    go_ret
    exact ⟨rfl, hb⟩
  have q : decide ((20000 : Int) < (a0.size : Int)) = false := by simp; omega
  have HB := Lib.hid (bound9 a1 w)
  have hmo : min a1 200000 ≤ 200000 := Int.min_le_right _ _
  generalize min a1 200000 = mo at *
  by_cases hneg : mo < 0
  · have H1 := Lib.hid (one_neg mo a0 w hneg)
    have H2 := Lib.hid (new_no mo w hneg)
    clear hneg hmo
    go_enter Try.func5, Try.ntmps5
    go_wp2_with (first | (go_at_call 26; refine HB.out.mono ?_; rintro e w' ⟨rfl, rfl⟩) | (go_at_call 27; refine H1.out.mono ?_; rintro e w' ⟨rfl, rfl⟩) | (go_at_call 28; refine H2.out.mono ?_; rintro e w' ⟨rfl, rfl⟩) | (go_at_call 25; refine (HF _).out.mono ?_; rintro e w' ⟨rfl, hb⟩))
    go_ret
    exact ⟨rfl, hb⟩
  obtain ⟨m, rfl⟩ := Int.eq_ofNat_of_zero_le (show 0 ≤ mo by omega)
  have hm : m ≤ 200000 := by omega
  clear hneg hmo
  obtain ⟨c, e, hrun⟩ := Im.run_exists a0.data.toList m Im.start (Nat.zero_le _) (Nat.zero_le _)
  have H1 := fun w => Lib.hid (one_run m a0 w c e (by omega) (by omega) hrun)
  unfold OneIn at H1
  have H2 := fun w => Lib.hid (hist_new m w (by omega))
  replace hrun := Lib.hid hrun
  generalize hee : oneE c e = ee at *
  generalize hoo : oneO c e = oo at *
  generalize hnn : oneN c e = nn at *
  replace hee := Lib.hid hee
  replace hoo := Lib.hid hoo
  replace hnn := Lib.hid hnn
  go_enter Try.func5, Try.ntmps5
  go_upto_block 0 with (first | (go_at_call 26; refine HB.out.mono ?_; rintro e w' ⟨rfl, rfl⟩) | (go_at_call 27; refine (H1 _).out.mono ?_; rintro e w1 ⟨rfl, hb1⟩; clear H1) | (go_at_call 28; refine (H2 _).out.mono ?_; rintro e w2 ⟨rfl, h2, hb2⟩; clear H2))
  have hRw : w.heap.size ≤ w1.heap.size := hb1.size
  have hS0 : CutAt w w1.heap.size w1.heap.size m a0.data.toList (.string ⟨#[]⟩) (.string a0) w2 := ⟨0, Im.start, ⟨#[]⟩, a0, Nat.zero_le _, h2, rfl, rfl, rfl, rfl, hb1.trans (hb2.mono hRw)⟩
  clear h2 hb1 hb2
  generalize w1.heap.size = R at *
  go_cut [12, 13] (fun v1 v2 wx => CutAt w R R m a0.data.toList v1 v2 wx)
  case first =>
    go_wp2_with fail
    go_loopw [12, 13, 14] (fun v1 v2 i wr => ∃ k : Nat, i = .int .i64 k ∧ k ≤ 100 ∧ CutAt w R R m a0.data.toList v1 v2 wr) (fun _ _ i _ => 100 - (intOf i).toNat)
    case atStart => exact ⟨0, rfl, by omega, hS0⟩
    case round =>
      clear hS0
      obtain ⟨k, rfl, hk, p, cc, ts, rs, hp, hh, rfl, hts, rfl, hrs, hbl⟩ := hrel
      by_cases c1 : k < ls.length ∧ k < 100 ∧ rs.size ≠ 0
      · obtain ⟨d1, d2, d3⟩ := c1
        have q1 : decide ((k : Int) < (ls.length : Int)) = true := by simp; omega
        have q1' : decide (k < ls.length) = true := by simp; omega
        have q2 : decide ((k : Int) < 100) = true := by simp; omega
        have q3 := isEmpty_pos rs (by omega)
        obtain ⟨bb, oo', hidx, hcell, hblt⟩ := s2.at k ls[k] (List.getElem?_eq_getElem d1) cap2
        have hcw : wr.cell? ⟨bb, oo', none⟩ = some (.int .i64 ls[k]) := by rw [hbl.cell (p := ⟨bb, oo', none⟩) hblt]; exact hcell
        obtain ⟨n0, hn0, en0⟩ := and_mask ls[k] 1023 (by omega)
        have en0' : bits BinOp.and IntKind.i64 ls[k] 1023 = (n0 : Int) := en0
        have m2' : (if rs.size < n0 then (rs.size : Int) else (n0 : Int)) = ((min n0 rs.size : Nat) : Int) := by split <;> omega
        have hnn2 : min n0 rs.size ≤ rs.size := Nat.min_le_right _ _
        generalize min n0 rs.size = nn2 at *
        have HS := cut_step w R m a0.data.toList c e hrun.out (by rw [blen]; exact z0) hRw p cc ts rs wr nn2 hp hh hts hrs hbl hnn2
        clear hh hts hrs hbl hcell en0 hp
        rcases HS with ⟨og, hsum, HW⟩ | ⟨hne, HW⟩
        · replace HW := Lib.hid HW
          go_wp2_with (go_at_call 29; refine HW.out.mono ?_; rintro q w3 ⟨ho, h3⟩; unfold cutO at ho; subst ho; replace h3 := Lib.hid h3)
          go_roundw
          case rel => exact ⟨k + 1, by go_num, by omega, h3.out⟩
          case measure => simp [intOf]; omega
        · replace HW := Lib.hid HW
          rw [hee.out] at hne
          have q5 : (ee != 0) = true := by simpa using hne
          rw [hee.out] at HW
          clear hne
          go_wp2_with (first | (go_at_call 29; refine HW.out.mono ?_; rintro q w3 ⟨ho, h3⟩; unfold cutE at ho; subst ho; replace h3 := Lib.hid h3) | (go_at_call 25; refine (HF _).out.mono ?_; rintro e w' ⟨rfl, hb⟩))
          go_ret
          exact ⟨rfl, belThen h3.out hb⟩
      · have HC : Hid (CutAt w R R m a0.data.toList (.string ts) (.string rs) wr) := ⟨p, cc, ts, rs, hp, hh, rfl, hts, rfl, hrs, hbl⟩
        clear hp hh hrs hbl hts
        by_cases d1 : k < ls.length
        · have q1 : decide ((k : Int) < (ls.length : Int)) = true := by simp; omega
          have q1' : decide (k < ls.length) = true := by simp; omega
          by_cases d2 : k < 100
          · have q2 : decide ((k : Int) < 100) = true := by simp; omega
            have d3 : rs.size = 0 := by omega
            have q3 := isEmpty_zero rs d3
            clear c1 d1 d2 d3
            go_wp2_with fail
            go_meet
            exact HC.out
          · have q2 : decide ((k : Int) < 100) = false := by simp; omega
            clear c1 d1 d2
            go_wp2_with fail
            go_meet
            exact HC.out
        · have q1 : decide ((k : Int) < (ls.length : Int)) = false := by simp; omega
          have q1' : decide (k < ls.length) = false := by simp; omega
          clear c1 d1
          go_wp2_with fail
          go_meet
          exact HC.out
  case rest =>
    clear hS0
    obtain ⟨wa, hwa⟩ : ∃ x : World, x = wc := ⟨wc, rfl⟩
    subst hwa
    unfold CutAt at hcut
    obtain ⟨p, cc, ts, rs, hp, hh, rfl, hts, rfl, hrs, hbl⟩ := hcut
    rcases cut_last w R m a0.data.toList c e hrun.out (by rw [blen]; exact z0) hRw p cc ts rs wa hp hh hts hrs hbl with ⟨he0, og, hsum, hto, HW⟩ | ⟨hne, HW⟩
    · subst he0
      replace HW := Lib.hid HW
      have HD := fun w' h => Lib.hid (hist_done R R m a0.data.toList c w' h)
      have HR := fun w' h => Lib.hid (hist_rest R R m a0.data.toList c w' h)
      clear hp hh hts hrs hbl
      by_cases h3 : c.state = 3
      · have hE : ee = 0 := by rw [← hee.out]; unfold oneE; rw [if_neg (by simp), if_pos h3]
        have hO : oo = c.out := by rw [← hoo.out]; exact if_pos ⟨rfl, h3⟩
        have hN : nn = c.pos / 8 := by rw [← hnn.out]; exact if_pos ⟨rfl, h3⟩
        simp only [decide_eq_true h3] at HD
        simp only [if_pos h3] at HR
        have hwt := hrun.out.went (Nat.zero_le _) (Nat.zero_le _)
        have hpl := hwt.1
        rw [blen] at hpl
        have hnl : nn ≤ a0.size := by omega
        have hdl := ext_list a0 nn
        rw [← hN, ← hdl] at HR
        rw [← hO] at hto
        subst hE
        have hT : ts ++ (⟨og.toArray⟩ : ByteArray) = ⟨oo.toArray⟩ := bytes_eq hto
        simp only [bytes_same] at HR
        clear hN hwt hpl hO hto hdl h3
        go_wp2_with (first | (go_at_call 29; refine HW.out.mono ?_; rintro q w3 ⟨ho, h3, hb3⟩; unfold cutO at ho; subst ho; replace h3 := Lib.hid h3; replace hb3 := Lib.hid hb3) | (go_at_call 30; refine (HD _ h3.out).out.mono ?_; rintro q w4 ⟨rfl, rfl⟩))
        have HB3 : ∀ w', Below w3.heap.size w3 w' → Hist w' R R m a0.data.toList c := fun w' hb => h3.out.below hb
        clear HW
        go_region_held3 (fun w' => Below w3.heap.size w3 w') (first | exact (Below.refl _ _).drew | assumption | exact belThen (by assumption) hb) (first | (go_at_call 31; refine (HR _ (HB3 _ (by assumption))).out.mono ?_; rintro q w4 ⟨rfl, rfl⟩) | (go_at_call 25; refine (HF _).out.mono ?_; rintro e w' ⟨rfl, hb⟩))
        all_goals
          go_wp2_with fail
          go_ret
          exact ⟨rfl, hb3.out.trans ((by assumption : Below w3.heap.size w3 _).mono (Nat.le_trans hRw (Nat.le_trans (h3.out.lt.1) (Nat.le_of_lt h3.out.lt.2))))⟩
      · have hE : ee = 94 := by rw [← hee.out]; unfold oneE; rw [if_neg (by simp), if_neg h3]
        simp only [decide_eq_false h3] at HD
        subst hE
        clear hto h3
        go_wp2_with (first | (go_at_call 29; refine HW.out.mono ?_; rintro q w3 ⟨ho, h3, hb3⟩; unfold cutO at ho; subst ho; replace h3 := Lib.hid h3; replace hb3 := Lib.hid hb3) | (go_at_call 30; refine (HD _ h3.out).out.mono ?_; rintro q w4 ⟨rfl, rfl⟩) | (go_at_call 25; refine (HF _).out.mono ?_; rintro e w' ⟨rfl, hb⟩))
        go_ret
        exact ⟨rfl, belThen hb3.out hb⟩
    · replace HW := Lib.hid HW
      rw [hee.out] at hne
      have q5 : (ee != 0) = true := by simpa using hne
      rw [hee.out] at HW
      clear hne hp hh hts hrs hbl
      go_wp2_with (first | (go_at_call 29; refine HW.out.mono ?_; rintro q w3 ⟨ho, h3⟩; unfold cutE at ho; subst ho; replace h3 := Lib.hid h3) | (go_at_call 25; refine (HF _).out.mono ?_; rintro e w' ⟨rfl, hb⟩))
      go_ret
      exact ⟨rfl, belThen h3.out hb⟩
end Go.Proofs.Ytcjcmlnbchmnnaa
