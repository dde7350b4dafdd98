/- farrierlaw10.GzipCuts: the walk. -/
import Derived.Test.YtcjcmlnbchmnnaaGCuts
namespace Go.Proofs.Ytcjcmlnbchmnnaa
open Go.RowKit

theorem bytes_eq2 {a : ByteArray} {l : List UInt8} (h : a.data.toList = l) : a = ⟨l.toArray⟩ := by subst h; rfl
theorem bytes_same2 (a : ByteArray) : (⟨a.data.toList.toArray⟩ : ByteArray) = a := rfl
set_option maxHeartbeats 4000000 in
set_option maxRecDepth 100000 in
theorem walk_GzipCuts (a0 : ByteArray) (a1 : Int) (a2 : Option Addr) (cap2 : Nat) (ls : List Int) (w : World) (z0 : a0.size ≤ 140737488351232) (_w1 : (Lit.int .i64 a1).wf = true) (s2 : SInts w a2 ls) (_m2 : ls.length ≤ maxLen) (_f2 : ∀ n ∈ ls, (Lit.int .i64 n).wf = true) :
    Calls Try.prog 12 #[.string a0, .int .i64 a1, .slice a2 ls.length cap2] w fun e w' => e = .returned (.bool true) ∧ Below w.heap.size w w' := by
  have HF := fun w => Lib.hid (fixed10 w)
  by_cases h5 : 20000 < a0.size
  · have q : decide ((20000 : Int) < (a0.size : Int)) = true := by simp; omega
    go_enter Try.func12, Try.ntmps12
    go_wp2_with (go_at_call 14; refine (HF _).out.mono ?_; rintro e w' ⟨rfl, hb⟩)
    go_ret
    exact ⟨rfl, hb⟩
  have q : decide ((20000 : Int) < (a0.size : Int)) = false := by simp; omega
  have HB := Lib.hid (bound10 a1 w)
  have hmo : min a1 200000 ≤ 200000 := Int.min_le_right _ _
  generalize min a1 200000 = mo at *
  by_cases hneg : mo < 0
  · have H1 := Lib.hid (gone_neg mo a0 w hneg)
    have H2 := Lib.hid (gnew_no mo w hneg)
    clear hneg hmo
    go_enter Try.func12, Try.ntmps12
    go_wp2_with (first | (go_at_call 18; refine HB.out.mono ?_; rintro e w' ⟨rfl, rfl⟩) | (go_at_call 17; refine H1.out.mono ?_; rintro e w' ⟨rfl, rfl⟩) | (go_at_call 19; refine H2.out.mono ?_; rintro e w' ⟨rfl, rfl⟩) | (go_at_call 14; refine (HF _).out.mono ?_; rintro e w' ⟨rfl, hb⟩))
    go_ret
    exact ⟨rfl, hb⟩
  obtain ⟨m, rfl⟩ := Int.eq_ofNat_of_zero_le (show 0 ≤ mo by omega)
  have hm : m ≤ 200000 := by omega
  clear hneg hmo
  obtain ⟨out, e, fin, hrun⟩ := gz_exists a0.data.toList m
  have H1 := fun w => Lib.hid (gone_run m a0 w out e fin (by omega) (by omega) hrun)
  unfold GOneIn at H1
  have H2 := fun w => Lib.hid (gnew_yes m w (by omega))
  replace hrun := Lib.hid hrun
  generalize hee : gE e fin = ee at *
  generalize hoo : gO out e fin = oo at *
  generalize hnn : gN e fin = nn at *
  replace hee := Lib.hid hee
  replace hoo := Lib.hid hoo
  replace hnn := Lib.hid hnn
  go_enter Try.func12, Try.ntmps12
  go_upto_block 0 with (first | (go_at_call 18; refine HB.out.mono ?_; rintro e w' ⟨rfl, rfl⟩) | (go_at_call 17; refine (H1 _).out.mono ?_; rintro e w1 ⟨rfl, hb1⟩; clear H1) | (go_at_call 19; refine (H2 _).out.mono ?_; rintro e w2 ⟨G, rfl, h2, hb2⟩; clear H2))
  have hRw : w.heap.size ≤ w1.heap.size := hb1.size
  have hS0 : GCutAt w G w1.heap.size m a0.data.toList False (.string ⟨#[]⟩) (.string a0) w2 := ⟨0, [], none, ⟨#[]⟩, a0, Nat.zero_le _, h2, rfl, rfl, rfl, rfl, fun q => q.elim, hb1.trans (hb2.mono hRw)⟩
  clear h2 hb1 hb2
  generalize w1.heap.size = L at *
  go_cut [12, 13] (fun v1 v2 wx => GCutAt w G L m a0.data.toList True v1 v2 wx)
  case first =>
    go_wp2_with fail
    go_loopw [12, 13, 14] (fun v1 v2 i wr => ∃ k : Nat, i = .int .i64 k ∧ k ≤ 100 ∧ GCutAt w G L m a0.data.toList (ls.length < k ∨ 100 ≤ k) v1 v2 wr) (fun _ _ i _ => 100 - (intOf i).toNat)
    case atStart => exact ⟨0, rfl, by omega, by obtain ⟨p, out, fin, ts, rs, h1, h2, h3, h4, h5, h6, h7, h8⟩ := hS0; exact ⟨p, out, fin, ts, rs, h1, h2, h3, h4, h5, h6, fun q => by omega, h8⟩⟩
    case round =>
      clear hS0
      obtain ⟨k, rfl, hk, p, co, cf, ts, rs, hp, hh, rfl, hts, rfl, hrs, hdn, hbl⟩ := hrel
      by_cases c0 : k ≤ ls.length ∧ k < 100
      · obtain ⟨b1, b2⟩ := c0
        have p1 : decide ((k : Int) ≤ (ls.length : Int)) = true := by simp; omega
        have p1' : decide (k ≤ ls.length) = true := by simp; omega
        have p2 : decide ((k : Int) < 100) = true := by simp; omega
        clear hdn
        by_cases c1 : k < ls.length ∧ k < 99
        · obtain ⟨d1, d2⟩ := c1
          have q1 : decide ((k : Int) < (ls.length : Int)) = true := by simp; omega
          have q1' : decide (k < ls.length) = true := by simp; omega
          have q2 : decide ((k : Int) < 99) = true := by simp; omega
          obtain ⟨bb, oo', hidx, hcell, hblt⟩ := s2.at k ls[k] (List.getElem?_eq_getElem d1) cap2
          have hcw : wr.cell? ⟨bb, oo', none⟩ = some (.int .i64 ls[k]) := by rw [hbl.cell (p := ⟨bb, oo', none⟩) hblt]; exact hcell
          obtain ⟨n0, hn0, en0⟩ := and_mask ls[k] 1023 (by omega)
          have en0' : bits BinOp.and IntKind.i64 ls[k] 1023 = (n0 : Int) := en0
          have m2' : (if rs.size < n0 then (rs.size : Int) else (n0 : Int)) = ((min n0 rs.size : Nat) : Int) := by split <;> omega
          have hnn2 : min n0 rs.size ≤ rs.size := Nat.min_le_right _ _
          generalize min n0 rs.size = nn2 at *
          have HS := gcut_step w G L m a0.data.toList out e fin hrun.out (by rw [blen]; exact z0) hRw p co cf ts rs wr nn2 hp hh hts hrs hbl hnn2 (ls.length < k + 1 ∨ 100 ≤ k + 1) (fun q => by omega)
          clear hh hts hrs hbl hcell en0 hp
          rcases HS with ⟨og, hsum, HW⟩ | ⟨hne, HW⟩
          · replace HW := Lib.hid HW
            go_wp2_with (go_at_call 21; refine HW.out.mono ?_; rintro q w3 ⟨ho, h3⟩; unfold gcutO at ho; subst ho; replace h3 := Lib.hid h3)
            go_roundw
            case rel => exact ⟨k + 1, by go_num, by omega, h3.out⟩
            case measure => simp [intOf]; omega
          · replace HW := Lib.hid HW
            rw [hee.out] at hne
            have q5 : (ee != 0) = true := by simpa using hne
            rw [hee.out] at HW
            clear hne
            go_wp2_with (first | (go_at_call 21; refine HW.out.mono ?_; rintro q w3 ⟨ho, h3⟩; unfold gcutE at ho; subst ho; replace h3 := Lib.hid h3) | (go_at_call 14; refine (HF _).out.mono ?_; rintro e w' ⟨rfl, hb⟩))
            go_ret
            exact ⟨rfl, belThen h3.out hb⟩
        · have HS := gcut_step w G L m a0.data.toList out e fin hrun.out (by rw [blen]; exact z0) hRw p co cf ts rs wr rs.size hp hh hts hrs hbl (Nat.le_refl _) (ls.length < k + 1 ∨ 100 ≤ k + 1) (fun q => rfl)
          have hx : rs.extract 0 rs.size = rs := ext_all rs
          have hx2 : rs.extract rs.size rs.size = ByteArray.empty := by simp
          rw [hx, hx2] at HS
          clear hh hts hrs hbl hp hx hx2
          obtain ⟨t1, ht1⟩ : ∃ b, decide ((k : Int) < (ls.length : Int)) = b := ⟨_, rfl⟩
          obtain ⟨t2, ht2⟩ : ∃ b, decide ((k : Int) < 99) = b := ⟨_, rfl⟩
          have ht1' : decide (k < ls.length) = t1 := by rw [← ht1, decide_eq_decide]; omega
          have ht2' : decide (k < 99) = t2 := by rw [← ht2, decide_eq_decide]; omega
          have htt : t1 = false ∨ t1 = true ∧ t2 = false := by
            by_cases d1 : k < ls.length
            · exact .inr ⟨by rw [← ht1']; exact decide_eq_true d1, by rw [← ht2']; exact decide_eq_false (fun q => c1 ⟨d1, q⟩)⟩
            · exact .inl (by rw [← ht1']; exact decide_eq_false d1)
          clear c1
          rcases HS with ⟨og, hsum, HW⟩ | ⟨hne, HW⟩
          · replace HW := Lib.hid HW
            rcases htt with rfl | ⟨rfl, rfl⟩
            all_goals
              go_wp2_with (go_at_call 21; refine HW.out.mono ?_; rintro q w3 ⟨ho, h3⟩; unfold gcutO at ho; subst ho; replace h3 := Lib.hid h3)
              go_roundw
              case rel => exact ⟨k + 1, by go_num, by omega, h3.out⟩
              case measure => simp [intOf]; omega
          · replace HW := Lib.hid HW
            rw [hee.out] at hne
            have q5 : (ee != 0) = true := by simpa using hne
            rw [hee.out] at HW
            clear hne
            rcases htt with rfl | ⟨rfl, rfl⟩
            all_goals
              go_wp2_with (first | (go_at_call 21; refine HW.out.mono ?_; rintro q w3 ⟨ho, h3⟩; unfold gcutE at ho; subst ho; replace h3 := Lib.hid h3) | (go_at_call 14; refine (HF _).out.mono ?_; rintro e w' ⟨rfl, hb⟩))
              go_ret
              exact ⟨rfl, belThen h3.out hb⟩
      · have HC : Hid (GCutAt w G L m a0.data.toList True (.string ts) (.string rs) wr) := Lib.hid ⟨p, co, cf, ts, rs, hp, hh, rfl, hts, rfl, hrs, fun _ => hdn (by omega), hbl⟩
        clear hp hh hrs hbl hts hdn
        by_cases d1 : k ≤ ls.length
        · have q1 : decide ((k : Int) ≤ (ls.length : Int)) = true := by simp; omega
          have q1' : decide (k ≤ ls.length) = true := by simp; omega
          have q2 : decide ((k : Int) < 100) = false := by simp; omega
          clear c0 d1
          go_wp2_with fail
          go_meet
          exact HC.out
        · have q1 : decide ((k : Int) ≤ (ls.length : Int)) = false := by simp; omega
          have q1' : decide (k ≤ ls.length) = false := by simp; omega
          clear c0 d1
          go_wp2_with fail
          go_meet
          exact HC.out
  case rest =>
    clear hS0
    obtain ⟨wa, hwa⟩ : ∃ x : World, x = wc := ⟨wc, rfl⟩
    subst hwa
    unfold GCutAt at hcut
    obtain ⟨p, co, cf, ts, rs, hp, hh, rfl, hts, rfl, hrs, hdn, hbl⟩ := hcut
    have hpe := hdn trivial
    subst hpe
    rw [List.take_length] at hh
    have hdet := hh.run.det hrun.out
    injection hdet with d1 d2
    injection d2 with d2 d3
    subst d1 d2 d3
    have HD := Lib.hid (gin_done G L m a0.data.toList co cf wa hh)
    have HR := fun w' h => Lib.hid (gin_rest G L m a0.data.toList co cf w' h)
    have HB3 : ∀ w', Below wa.heap.size wa w' → GzIn w' G L m a0.data.toList co cf := fun w' hb => hh.below hb
    have hblx := Lib.hid hbl
    have hwl : w.heap.size ≤ wa.heap.size := hbl.size
    cases cf with
    | some kf =>
      have hE : ee = 0 := by rw [← hee.out]; rfl
      have hO : oo = co := by rw [← hoo.out]; rfl
      have hN : nn = kf := by rw [← hnn.out]; rfl
      have hkl := (gz_fin hrun.out).2
      rw [blen] at hkl
      have hnl : nn ≤ a0.size := by omega
      have hdl := ext_list a0 nn
      simp only at HR
      rw [← hN, ← hdl] at HR
      rw [← hN] at HB3
      rw [← hO] at hts
      have hT : ts = (⟨oo.toArray⟩ : ByteArray) := bytes_eq2 hts
      simp only [bytes_same2] at HR
      subst hE hT
      rw [Option.isSome_some] at HD
      clear hN hO hts hdl hkl hrs hdn hbl hh hp
      go_wp2_with (go_at_call 23; refine HD.out.mono ?_; rintro q w4 ⟨rfl, rfl⟩)
      go_region_held3 (fun w' => Below wa.heap.size wa w') (first | exact (Below.refl _ _).drew | assumption | exact belThen (by assumption) hb) (first | (go_at_call 24; refine (HR _ (HB3 _ (by assumption))).out.mono ?_; rintro q w4 ⟨rfl, rfl⟩) | (go_at_call 14; refine (HF _).out.mono ?_; rintro e w' ⟨rfl, hb⟩))
      all_goals
        go_wp2_with fail
        go_ret
        exact ⟨rfl, hblx.out.trans ((by assumption : Below wa.heap.size wa _).mono hwl)⟩
    | none =>
      have hE : ee = 102 := by rw [← hee.out]; rfl
      subst hE
      rw [Option.isSome_none] at HD
      clear hts hrs hdn hbl hh hp HR HB3
      go_wp2_with (first | (go_at_call 23; refine HD.out.mono ?_; rintro q w4 ⟨rfl, rfl⟩) | (go_at_call 14; refine (HF _).out.mono ?_; rintro e w' ⟨rfl, hb⟩))
      go_ret
      exact ⟨rfl, belThen hblx.out hb⟩
end Go.Proofs.Ytcjcmlnbchmnnaa
