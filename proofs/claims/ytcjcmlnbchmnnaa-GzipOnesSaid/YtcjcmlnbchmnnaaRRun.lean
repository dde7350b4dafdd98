/- farrierref10.Run: its contract. -/
import Derived.Test.YtcjcmlnbchmnnaaRHead
import Derived.Test.YtcjcmlnbchmnnaaRGet
import Derived.Test.YtcjcmlnbchmnnaaXE
import Derived.Test.YtcjcmlnbchmnnaaGHist
namespace Go.Proofs.Ytcjcmlnbchmnnaa
open Go.RowKit

/-- the reference's Run of bytes that may go on -/
theorem xrun9_ok (most : Nat) (s : ByteArray) (w : World) (c : Im.St) (hm : most ≤ 140737488355328) (hs : s.size ≤ 281474976710656) (hrun : Im.Run s.data.toList most Im.start c 0) :
    Calls Try.prog 36 #[.string s, .int .i64 (most : Int)] w fun o w' => ∃ n : Nat, o = .returned (.tuple #[.string ⟨c.out.toArray⟩, .int .i64 (n : Int), .bool (decide (c.state = 3)), .int .i64 0]) ∧ (c.state = 3 → n = c.pos / 8) ∧ Below w.heap.size w w' := by
  refine (xrun_go most s w c 0 hm hs hrun).mono ?_
  rintro o w' ⟨n, rfl, hn, hb⟩
  have e1 : decide ((0 : Int) = 0 ∧ c.state = 3) = decide (c.state = 3) := by simp
  exact ⟨n, by rw [if_pos rfl, e1], hn rfl, hb⟩
theorem xrun9_bad (most : Nat) (s : ByteArray) (w : World) (c : Im.St) (e : Int) (he : e ≠ 0) (hm : most ≤ 140737488355328) (hs : s.size ≤ 281474976710656) (hrun : Im.Run s.data.toList most Im.start c e) :
    Calls Try.prog 36 #[.string s, .int .i64 (most : Int)] w fun o w' => ∃ n : Nat, o = .returned (.tuple #[.string ⟨#[]⟩, .int .i64 (n : Int), .bool false, .int .i64 e]) ∧ Below w.heap.size w w' := by
  refine (xrun_go most s w c e hm hs hrun).mono ?_
  rintro o w' ⟨n, rfl, hn, hb⟩
  have e1 : decide (e = 0 ∧ c.state = 3) = false := by simp [he]
  exact ⟨n, by rw [if_neg he, e1], hb⟩
/-- what the document's Run comes to -/
def XGIn (out : List UInt8) (e : Int) (fin : Option Nat) (w : World) (o : Ending) (w' : World) : Prop :=
  o = .returned (.tuple #[.string ⟨out.toArray⟩, .int .i64 ((fin.getD 0 : Nat) : Int), .bool fin.isSome, .int .i64 e]) ∧ Below w.heap.size w w'
theorem xgrun_neg (most : Int) (s : ByteArray) (w : World) (h : most < 0) :
    Calls Try.prog 22 #[.string s, .int .i64 most] w fun o w' => o = .returned (.tuple #[.string ⟨#[]⟩, .int .i64 0, .bool false, .int .i64 1]) ∧ w = w' := by
  have q : decide (most < 0) = true := by simp; omega
  go_enter Try.func22, Try.ntmps22
  go_wp2
  exact bodyPost_ret (v := .tuple #[.string ⟨#[]⟩, .int .i64 0, .bool false, .int .i64 1]) (by simp [results, Try.results22, go_sem]) rfl ⟨rfl, rfl⟩
set_option maxRecDepth 100000 in
set_option maxHeartbeats 4000000 in
theorem xgrun_go (most : Nat) (s : ByteArray) (w : World) (out : List UInt8) (e : Int) (fin : Option Nat) (hm : most ≤ 140737488355328) (hs : s.size ≤ 140737488351232) (hrun : Gz.GRun s.data.toList most (out, e, fin)) :
    Calls Try.prog 22 #[.string s, .int .i64 (most : Int)] w (XGIn out e fin w) := by
  have q : decide ((most : Int) < 0) = false := by simp
  have HH := rhead_go s w hs
  unfold HdIn at HH
  rcases hrun with ⟨h1, h2⟩ | ⟨e', h1, h2⟩ | ⟨p, c, f, h1, h2, h3⟩
  · rw [h1] at HH
    dsimp only [hdAns] at HH
    obtain ⟨rfl, rfl, rfl⟩ : out = [] ∧ e = 0 ∧ fin = none := by injection h2 with a b; injection b with b d; exact ⟨a, b, d⟩
    go_enter Try.func22, Try.ntmps22
    go_wp2_with (go_at_call 41; refine HH.mono ?_; rintro o w1 ⟨rfl, hb1⟩)
    exact bodyPost_ret (v := .tuple #[.string ⟨#[]⟩, .int .i64 0, .bool false, .int .i64 0]) (by simp [results, Try.results22, go_sem]) rfl ⟨rfl, hb1⟩
  · rw [h1] at HH
    dsimp only [hdAns] at HH
    obtain ⟨rfl, rfl, rfl⟩ : out = [] ∧ e = e' ∧ fin = none := by injection h2 with a b; injection b with b d; exact ⟨a, b, d⟩
    have he : e ≠ 0 := by rcases Gz.magP_bad h1 with q | q <;> omega
    have qe : (e != 0) = true := by simpa using he
    clear he h1 h2
    go_enter Try.func22, Try.ntmps22
    go_wp2_with (go_at_call 41; refine HH.mono ?_; rintro o w1 ⟨rfl, hb1⟩)
    exact bodyPost_ret (v := .tuple #[.string ⟨#[]⟩, .int .i64 0, .bool false, .int .i64 e]) (by simp [results, Try.results22, go_sem]) rfl ⟨rfl, hb1⟩
  rw [h1] at HH
  dsimp only [hdAns] at HH
  obtain ⟨hp10, hpl⟩ := Gz.magP_le h1
  rw [blen] at hpl
  have hdr : (s.extract p s.size).data.toList = s.data.toList.drop p := drop_list s p
  have hez : (s.extract p s.size).size ≤ s.size := by simp
  have hwt := h2.went (Nat.zero_le _) (Nat.zero_le _)
  have hol : c.out.length ≤ most := hwt.2.2.2.1 (Nat.zero_le _)
  have hpos := hwt.1
  rw [List.length_drop, blen] at hpos
  clear h1 hwt
  by_cases hf : f = 0
  rotate_left
  · have qe : (f != 0) = true := by simpa using hf
    rw [Gz.behind, if_pos hf] at h3
    obtain ⟨rfl, rfl, rfl⟩ : out = [] ∧ e = f ∧ fin = none := by injection h3 with a b; injection b with b d; exact ⟨a, b, d⟩
    have HX := fun w1 => xrun9_bad most (s.extract p s.size) w1 c e hf hm (by omega) (by rw [hdr]; exact h2)
    clear h3 hf h2 hdr hez
    go_enter Try.func22, Try.ntmps22
    go_wp2_with (first | (go_at_call 41; refine HH.mono ?_; rintro o w1 ⟨rfl, hb1⟩) | (go_at_call 36; refine (HX _).mono ?_; rintro o w2 ⟨n, rfl, hb2⟩))
    exact bodyPost_ret (v := .tuple #[.string ⟨#[]⟩, .int .i64 0, .bool false, .int .i64 e]) (by simp [results, Try.results22, go_sem]) rfl ⟨rfl, belThen hb1 hb2⟩
  subst hf
  have HX := fun w1 => xrun9_ok most (s.extract p s.size) w1 c hm (by omega) (by rw [hdr]; exact h2)
  clear h2 hdr hez
  by_cases h3s : c.state = 3
  rotate_left
  · rw [behind_on h3s] at h3
    obtain ⟨rfl, rfl, rfl⟩ : out = c.out ∧ e = 0 ∧ fin = none := by injection h3 with a b; injection b with b d; exact ⟨a, b, d⟩
    simp only [decide_eq_false h3s] at HX
    clear h3 h3s
    go_enter Try.func22, Try.ntmps22
    go_wp2_with (first | (go_at_call 41; refine HH.mono ?_; rintro o w1 ⟨rfl, hb1⟩) | (go_at_call 36; refine (HX _).mono ?_; rintro o w2 ⟨n, rfl, _, hb2⟩))
    exact bodyPost_ret (v := .tuple #[.string ⟨c.out.toArray⟩, .int .i64 0, .bool false, .int .i64 0]) (by simp [results, Try.results22, go_sem]) rfl ⟨rfl, belThen hb1 hb2⟩
  simp only [decide_eq_true h3s] at HX
  have hQ : p + c.pos / 8 ≤ s.size := by omega
  have HG := fun a w => Lib.hid (rget_yes (s.extract a (a + 4)) w)
  have HC := fun w => Lib.hid (rcrc_any 0 ⟨c.out.toArray⟩ w (by omega) (by unfold maxLen; rw [← blen]; exact Nat.le_trans hol (by omega)))
  replace h3 := Lib.hid h3
  replace h3s := Lib.hid h3s
  go_enter Try.func22, Try.ntmps22
  go_upto_region 11 with (first | (go_at_call 41; refine HH.mono ?_; rintro o w1 ⟨rfl, hb1⟩; clear HH) | (go_at_call 36; refine (HX _).mono ?_; rintro o w2 ⟨n, rfl, hn, hb2⟩; clear HX))
  obtain rfl := hn h3s.out
  have hb := belThen hb1 hb2
  clear hb1 hb2 hn
  generalize hq8 : c.pos / 8 = n8 at *
  replace hq8 := Lib.hid hq8
  go_wp2_with fail
  go_loopw [8, 14] (fun av tv wr => ∃ j A : Nat, j ≤ 2 ∧ tv = .int .i64 (j : Int) ∧ av = .int .i64 (A : Int) ∧ A ≤ s.size ∧ Hid (p + n8 + 4 * j = A) ∧ wr = w2 ∧ Hid (∀ i, i < j → Gz.nAt 4 s.data.toList (p + n8 + 4 * i) = wantN c.out i)) (fun _ tv _ => 2 - (intOf tv).toNat)
  case atStart => exact ⟨0, p + n8, by omega, rfl, by go_num, hQ, Lib.hid (by omega), rfl, Lib.hid fun i hi => by omega⟩
  case round =>
    obtain ⟨j, A, hj, rfl, rfl, hA, hAj, rfl, hall⟩ := hrel
    have HT := Lib.hid (tail_of (s := s.data.toList) (Q := p + n8) (out := c.out) hj hall.out (by rw [blen, hAj.out]; exact hA))
    have HN : Hid (Gz.nAt 4 s.data.toList (p + n8 + 4 * j) = wantN c.out j → ∀ i, i < j + 1 → Gz.nAt 4 s.data.toList (p + n8 + 4 * i) = wantN c.out i) := Lib.hid fun hq i hi => by
      by_cases ei : i = j
      · subst ei; exact hq
      · exact hall.out i (by omega)
    clear hall
    by_cases e2 : j = 2
    · subst e2
      have qt : decide (((2 : Nat) : Int) < 2) = false := by decide
      have h4 := h3.out
      rw [behind_ok h3s.out (by rw [hq8.out]; exact (HT.out.1 (Or.inl rfl)))] at h4
      obtain ⟨rfl, rfl, rfl⟩ : out = c.out ∧ e = 0 ∧ fin = some (p + n8 + 8) := by injection h4 with a b; injection b with b d; exact ⟨a, b, d⟩
      have e8 : p + n8 + 8 = A := hAj.out
      have HP : Hid (XGIn c.out 0 (some (p + n8 + 8)) w (.returned (.tuple #[.string ⟨c.out.toArray⟩, .int .i64 (A : Int), .bool true, .int .i64 0])) wr) := Lib.hid ⟨by rw [e8]; rfl, hb⟩
      clear h4 hq8 HT h3 h3s HC HG HN
      go_wp2_with fail
      exact bodyPost_ret (v := .tuple #[.string ⟨c.out.toArray⟩, .int .i64 (A : Int), .bool true, .int .i64 0]) (by simp [results, Try.results22, go_sem]) rfl HP.out
    · rcases (by omega : j = 0 ∨ j = 1) with e0 | e1
      · subst e0
        have qt : decide (((0 : Nat) : Int) < 2) = true := by decide
        by_cases hfar : s.size < A + 4
        · have q4 : decide ((s.size : Int) < (A : Int) + 4) = true := decide_eq_true (by omega)
          have h4 := h3.out
          rw [behind_ok h3s.out (by rw [hq8.out]; exact (HT.out.1 (Or.inr (by rw [blen, hAj.out]; exact hfar))))] at h4
          obtain ⟨rfl, rfl, rfl⟩ : out = c.out ∧ e = 0 ∧ fin = none := by injection h4 with a b; injection b with b d; exact ⟨a, b, d⟩
          clear h4 hq8 HT h3 h3s HC HG
          go_wp2_with fail
          exact bodyPost_ret (v := .tuple #[.string ⟨c.out.toArray⟩, .int .i64 0, .bool false, .int .i64 0]) (by simp [results, Try.results22, go_sem]) rfl ⟨rfl, hb⟩
        · have q4 : decide ((s.size : Int) < (A : Int) + 4) = false := decide_eq_false (by omega)
          have ez : (s.extract A (A + 4)).size = 4 := by rw [ext_size' s A (A + 4) (by omega)]; omega
          have HG1 := fun w => (HG A w).out (by omega) (by omega)
          have eN : Cm.getN (s.extract A (A + 4)).data.toList = Gz.nAt 4 s.data.toList A := by rw [sub_list]; rfl
          rw [eN] at HG1
          have hno := HT.out.2 (by omega) (by rw [blen, hAj.out]; omega)
          have HT2 := HN.out
          rw [hAj.out] at hno HT2
          rw [show wantN c.out 0 = Cm.crc 0 c.out from rfl] at hno HT2
          generalize Gz.nAt 4 s.data.toList A = v at *
          clear ez eN HG
          have hcc := Cm.crc_lt 0 c.out
          replace h3 := Lib.hid h3.out
          generalize hcr : Cm.crc 0 c.out = cc at *
          replace hcr := Lib.hid hcr
          have qj : (((0 : Nat) : Int) == 1) = false := rfl
          have qj' : ((0 : Int) == 1) = false := rfl
          have a4 : IntKind.i64.wrap ((A : Int) + 4) = (A : Int) + 4 := IntWalk.i64_in _ (by omega)
          by_cases heq : v = cc
          · have q5 : ((v : Int) != (cc : Int)) = false := by rw [heq]; simp
            have HN2 := Lib.hid (HT2 heq)
            clear hno HT2 HT heq HN
            go_wp2_with (first | (go_at_call 42; refine (HG1 _).mono ?_; rintro o w9 ⟨rfl, rfl⟩; clear HG1) | (go_at_call 15; refine (HC _).out.mono ?_; rintro o w9 ⟨rfl, rfl⟩; clear HC))
            go_roundw
            case rel => exact ⟨0 + 1, A + 4, by omega, by go_num, by go_num, by omega, by have := hAj.out; exact Lib.hid (by omega), by first | trivial | rfl, HN2⟩
            case measure => simp [intOf]
          · have q5 : ((v : Int) != (cc : Int)) = true := by rw [bne_iff_ne]; omega
            have h4 := h3.out
            rw [behind_no h3s.out (by rw [hq8.out]; exact hno heq)] at h4
            obtain ⟨rfl, rfl, rfl⟩ : out = [] ∧ e = 101 ∧ fin = none := by injection h4 with a b; injection b with b d; exact ⟨a, b, d⟩
            clear hno HT2 HT heq h4 hq8 h3 h3s HN
            go_wp2_with (first | (go_at_call 42; refine (HG1 _).mono ?_; rintro o w9 ⟨rfl, rfl⟩; clear HG1) | (go_at_call 15; refine (HC _).out.mono ?_; rintro o w9 ⟨rfl, rfl⟩; clear HC))
            exact bodyPost_ret (v := .tuple #[.string ⟨#[]⟩, .int .i64 0, .bool false, .int .i64 101]) (by simp [results, Try.results22, go_sem]) rfl ⟨rfl, hb⟩
      · subst e1
        have qt : decide (((1 : Nat) : Int) < 2) = true := by decide
        by_cases hfar : s.size < A + 4
        · have q4 : decide ((s.size : Int) < (A : Int) + 4) = true := decide_eq_true (by omega)
          have h4 := h3.out
          rw [behind_ok h3s.out (by rw [hq8.out]; exact (HT.out.1 (Or.inr (by rw [blen, hAj.out]; exact hfar))))] at h4
          obtain ⟨rfl, rfl, rfl⟩ : out = c.out ∧ e = 0 ∧ fin = none := by injection h4 with a b; injection b with b d; exact ⟨a, b, d⟩
          clear h4 hq8 HT h3 h3s HC HG
          go_wp2_with fail
          exact bodyPost_ret (v := .tuple #[.string ⟨c.out.toArray⟩, .int .i64 0, .bool false, .int .i64 0]) (by simp [results, Try.results22, go_sem]) rfl ⟨rfl, hb⟩
        · have q4 : decide ((s.size : Int) < (A : Int) + 4) = false := decide_eq_false (by omega)
          have ez : (s.extract A (A + 4)).size = 4 := by rw [ext_size' s A (A + 4) (by omega)]; omega
          have HG1 := fun w => (HG A w).out (by omega) (by omega)
          have eN : Cm.getN (s.extract A (A + 4)).data.toList = Gz.nAt 4 s.data.toList A := by rw [sub_list]; rfl
          rw [eN] at HG1
          have hno := HT.out.2 (by omega) (by rw [blen, hAj.out]; omega)
          have HT2 := HN.out
          rw [hAj.out] at hno HT2
          rw [show wantN c.out 1 = c.out.length % 4294967296 from rfl] at hno HT2
          generalize Gz.nAt 4 s.data.toList A = v at *
          clear ez eN HG
          have hcc := Cm.crc_lt 0 c.out
          replace h3 := Lib.hid h3.out
          generalize hcr : Cm.crc 0 c.out = cc at *
          replace hcr := Lib.hid hcr
          have qj : (((1 : Nat) : Int) == 1) = true := rfl
          have m1 : (((⟨c.out.toArray⟩ : ByteArray).size : Nat) : Int).tmod 4294967296 = ((c.out.length % 4294967296 : Nat) : Int) := by rw [← blen]; rfl
          have m2 : (((⟨c.out.toArray⟩ : ByteArray).size : Nat) : Int) % 4294967296 = ((c.out.length % 4294967296 : Nat) : Int) := by rw [← blen]; simp
          generalize c.out.length % 4294967296 = lm at *
          have hsz : (⟨c.out.toArray⟩ : ByteArray).size ≤ 140737488355328 := by rw [← blen]; exact Nat.le_trans hol hm
          generalize (⟨c.out.toArray⟩ : ByteArray) = BO at *
          have a4 : IntKind.i64.wrap ((A : Int) + 4) = (A : Int) + 4 := IntWalk.i64_in _ (by omega)
          by_cases heq : v = lm
          · have q5 : ((v : Int) != (lm : Int)) = false := by rw [heq]; simp
            have HN2 := Lib.hid (HT2 heq)
            clear hno HT2 HT heq HN
            go_wp2_with (first | (go_at_call 42; refine (HG1 _).mono ?_; rintro o w9 ⟨rfl, rfl⟩; clear HG1) | (go_at_call 15; refine (HC _).out.mono ?_; rintro o w9 ⟨rfl, rfl⟩; clear HC))
            go_roundw
            case rel => exact ⟨1 + 1, A + 4, by omega, by go_num, by go_num, by omega, by have := hAj.out; exact Lib.hid (by omega), by first | trivial | rfl, HN2⟩
            case measure => simp [intOf]
          · have q5 : ((v : Int) != (lm : Int)) = true := by rw [bne_iff_ne]; omega
            have h4 := h3.out
            rw [behind_no h3s.out (by rw [hq8.out]; exact hno heq)] at h4
            obtain ⟨rfl, rfl, rfl⟩ : out = [] ∧ e = 101 ∧ fin = none := by injection h4 with a b; injection b with b d; exact ⟨a, b, d⟩
            clear hno HT2 HT heq h4 hq8 h3 h3s HN
            go_wp2_with (first | (go_at_call 42; refine (HG1 _).mono ?_; rintro o w9 ⟨rfl, rfl⟩; clear HG1) | (go_at_call 15; refine (HC _).out.mono ?_; rintro o w9 ⟨rfl, rfl⟩; clear HC))
            exact bodyPost_ret (v := .tuple #[.string ⟨#[]⟩, .int .i64 0, .bool false, .int .i64 101]) (by simp [results, Try.results22, go_sem]) rfl ⟨rfl, hb⟩
end Go.Proofs.Ytcjcmlnbchmnnaa
