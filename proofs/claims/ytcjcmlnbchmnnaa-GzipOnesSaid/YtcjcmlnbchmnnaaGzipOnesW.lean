/- farrierlaw10.GzipOnes: the walk. -/
import Derived.Test.YtcjcmlnbchmnnaaRRun
import Derived.Test.YtcjcmlnbchmnnaaGFixed
namespace Go.Proofs.Ytcjcmlnbchmnnaa
open Go.RowKit

theorem bound10o (a : Int) (w : World) : Calls Try.prog 18 #[.int .i64 a] w fun e w' => e = .returned (.int .i64 (min a 200000)) ∧ w = w' := by
  go_enter Try.func18, Try.ntmps18
  go_wp2
  all_goals
    go_ret
    exact ⟨ret_int (by omega), rfl⟩
theorem xgone_neg (most : Int) (s : ByteArray) (w : World) (h : most < 0) :
    Calls Try.prog 38 #[.string s, .int .i64 most] w fun o w' => o = .returned (.tuple #[.string ⟨#[]⟩, .int .i64 0, .int .i64 1]) ∧ w = w' := by
  have HR := xgrun_neg most s w h
  go_enter Try.func38, Try.ntmps38
  go_wp2_with (go_at_call 22; refine HR.mono ?_; rintro e w' ⟨rfl, rfl⟩)
  go_ret3
  exact ⟨rfl, rfl⟩
/-- the document's One tells what gzip's One tells -/
theorem xgone_run (most : Nat) (s : ByteArray) (w : World) (out : List UInt8) (e : Int) (fin : Option Nat) (hm : most ≤ 140737488355328) (hs : s.size ≤ 140737488351232) (hrun : Gz.GRun s.data.toList most (out, e, fin)) :
    Calls Try.prog 38 #[.string s, .int .i64 (most : Int)] w (GOneIn out e fin w) := by
  have HR := xgrun_go most s w out e fin hm hs hrun
  unfold XGIn at HR
  unfold GOneIn gO gN gE
  by_cases he : e = 0
  · subst he
    cases fin with
    | none =>
      dsimp only [Option.getD_none, Option.isSome_none] at HR
      simp only [Option.isSome_none, Bool.false_eq_true, and_false, if_false, Option.getD_none, ne_eq, not_true_eq_false]
      go_enter Try.func38, Try.ntmps38
      go_wp2_with (go_at_call 22; refine HR.mono ?_; rintro e w' ⟨rfl, hb⟩)
      go_ret3
      exact ⟨rfl, hb⟩
    | some k =>
      dsimp only [Option.getD_some, Option.isSome_some] at HR
      simp only [Option.isSome_some, and_self, if_true, Option.getD_some, ne_eq, not_true_eq_false, if_false]
      go_enter Try.func38, Try.ntmps38
      go_wp2_with (go_at_call 22; refine HR.mono ?_; rintro e w' ⟨rfl, hb⟩)
      go_ret3
      exact ⟨rfl, hb⟩
  · have q1 : (e == 0) = false := by simpa using he
    have q2 : (e != 0) = true := by simpa using he
    simp only [he, false_and, if_false, ne_eq, not_false_eq_true, if_true]
    clear he hrun
    generalize fin.getD 0 = n at *
    generalize fin.isSome = b at *
    go_enter Try.func38, Try.ntmps38
    go_wp2_with (go_at_call 22; refine HR.mono ?_; rintro e w' ⟨rfl, hb⟩)
    go_ret3
    exact ⟨rfl, hb⟩
set_option maxHeartbeats 4000000 in
set_option maxRecDepth 100000 in
theorem walk_GzipOnes (a0 : ByteArray) (a1 : Int) (z0 : a0.size ≤ 140737488351232) (_w1 : (Lit.int .i64 a1).wf = true) (w : World) :
    Calls Try.prog 11 #[.string a0, .int .i64 a1] w fun e w' => e = .returned (.bool true) ∧ Below w.heap.size w w' := by
  have HF := fun w => Lib.hid (fixed10 w)
  by_cases h5 : 3000 < a0.size
  · have q : decide ((3000 : Int) < (a0.size : Int)) = true := by simp; omega
    go_enter Try.func11, Try.ntmps11
    go_wp2_with (go_at_call 14; refine (HF _).out.mono ?_; rintro e w' ⟨rfl, hb⟩)
    go_ret
    exact ⟨rfl, hb⟩
  have q : decide ((3000 : Int) < (a0.size : Int)) = false := by simp; omega
  have HB := fun w => Lib.hid (bound10o a1 w)
  have hmo : min a1 200000 ≤ 200000 := Int.min_le_right _ _
  generalize min a1 200000 = mo at *
  by_cases hneg : mo < 0
  · have H1 := fun w => Lib.hid (gone_neg mo a0 w hneg)
    have H2 := fun w => Lib.hid (xgone_neg mo a0 w hneg)
    clear hneg hmo
    go_enter Try.func11, Try.ntmps11
    go_wp2_with (first | (go_at_call 18; refine (HB _).out.mono ?_; rintro e w' ⟨rfl, rfl⟩) | (go_at_call 17; refine (H1 _).out.mono ?_; rintro e w' ⟨rfl, rfl⟩) | (go_at_call 38; refine (H2 _).out.mono ?_; rintro e w' ⟨rfl, rfl⟩) | (go_at_call 14; refine (HF _).out.mono ?_; rintro e w' ⟨rfl, hb⟩))
    go_ret
    exact ⟨rfl, hb⟩
  obtain ⟨m, rfl⟩ := Int.eq_ofNat_of_zero_le (show 0 ≤ mo by omega)
  obtain ⟨out, e, fin, hrun⟩ := gz_exists a0.data.toList m
  have H1 := fun w => Lib.hid (gone_run m a0 w out e fin (by omega) (by omega) hrun)
  have H2 := fun w => Lib.hid (xgone_run m a0 w out e fin (by omega) (by omega) hrun)
  unfold GOneIn at H1 H2
  clear hrun hmo hneg h5
  generalize gO out e fin = oo at *
  generalize gN e fin = nn at *
  generalize gE e fin = ee at *
  go_enter Try.func11, Try.ntmps11
  go_wp2_with (first | (go_at_call 18; refine (HB _).out.mono ?_; rintro e w' ⟨rfl, rfl⟩) | (go_at_call 17; refine (H1 _).out.mono ?_; rintro e w1 ⟨rfl, hb1⟩; clear H1) | (go_at_call 38; refine (H2 _).out.mono ?_; rintro e w2 ⟨rfl, hb2⟩; clear H2) | (go_at_call 14; refine (HF _).out.mono ?_; rintro e w' ⟨rfl, hb⟩))
  go_ret
  exact ⟨rfl, belThen (belThen hb1 hb2) hb⟩
end Go.Proofs.Ytcjcmlnbchmnnaa
