/- farrierlaw09.InflateLess: the walk. -/
import Derived.Test.YtcjcmlnbchmnnaaIFixed9
import Derived.Test.YtcjcmlnbchmnnaaIMask
namespace Go.Proofs.Ytcjcmlnbchmnnaa
open Go.RowKit

theorem to_take (s : ByteArray) (k : Nat) : (s.extract 0 k).data.toList = s.data.toList.take k := by simp
set_option maxHeartbeats 2000000 in
set_option maxRecDepth 100000 in
theorem walk_InflateLess (a0 : ByteArray) (a1 : Int) (w0 : a0.size ≤ 140737488351232) (_w1 : (Lit.int .i64 a1).wf = true) (w : World) :
    Calls Try.prog 7 #[.string a0, .int .i64 a1] w fun e w' => e = .returned (.bool true) ∧ Below w.heap.size w w' := by
  have HF := fun w => Lib.hid (fixed9 w)
  by_cases h5 : 5000 < a0.size
  · have q : decide ((5000 : Int) < (a0.size : Int)) = true := by simp; omega
    go_enter Try.func7, Try.ntmps7
    go_wp2_with (go_at_call 25; refine (HF _).out.mono ?_; rintro e w' ⟨rfl, hb⟩)
    go_ret
    exact ⟨rfl, hb⟩
  have q : decide ((5000 : Int) < (a0.size : Int)) = false := by simp; omega
  obtain ⟨c, e, hrun⟩ := Im.run_exists a0.data.toList 200000 Im.start (Nat.zero_le _) (Nat.zero_le _)
  have H1 := fun w => Lib.hid (one_run 200000 a0 w c e (by omega) (by omega) hrun)
  unfold OneIn at H1
  have e200 : ((200000 : Nat) : Int) = 200000 := rfl
  simp only [e200] at H1
  by_cases he : oneE c e = 0
  rotate_left
  · have qe : (oneE c e != 0) = true := by simpa using he
    clear hrun he
    generalize oneE c e = ee at *
    generalize oneO c e = oo at *
    generalize oneN c e = nn at *
    go_enter Try.func7, Try.ntmps7
    go_wp2_with (first | (go_at_call 27; refine (H1 _).out.mono ?_; rintro q w1 ⟨rfl, hb1⟩; clear H1) | (go_at_call 25; refine (HF _).out.mono ?_; rintro e w2 ⟨rfl, hb2⟩; have hb3 := belThen hb1 hb2; clear hb1 hb2; have hb1 := hb3; clear hb3))
    go_ret
    exact ⟨rfl, hb1⟩
  have he2 : e = 0 ∧ c.state = 3 := by
    unfold oneE at he
    by_cases h : e = 0
    · rw [if_neg (fun q => q h)] at he
      by_cases h3 : c.state = 3
      · exact ⟨h, h3⟩
      · rw [if_neg h3] at he; cases he
    · rw [if_pos h] at he; exact absurd he h
  obtain ⟨rfl, h3⟩ := he2
  have eo : oneO c 0 = c.out := if_pos ⟨rfl, h3⟩
  have en : oneN c 0 = c.pos / 8 := if_pos ⟨rfl, h3⟩
  rw [he, eo, en] at H1
  have hmv := hrun.moved h3
  have hev := hrun.even Im.start_even (Nat.zero_le _) (Nat.zero_le _) h3
  have hwt := hrun.went (Nat.zero_le _) (Nat.zero_le _)
  have hp1 := hwt.1
  have ho1 := hwt.2.2.2.1 (Nat.zero_le _)
  rw [blen] at hp1
  obtain ⟨k, hk, ek⟩ := and_mask a1 1048575 (by omega)
  have ek' : bits BinOp.and IntKind.i64 a1 1048575 = (k : Int) := ek
  obtain ⟨c3, hr3, hs3⟩ := hrun.short (n := c.pos / 8 - 1) h3 (by omega)
  rw [← to_take] at hr3
  have H3 := fun w => Lib.hid (one_run 200000 (a0.extract 0 (c.pos / 8 - 1)) w c3 0 (by omega) (by rw [← blen, to_take, List.length_take, blen]; omega) hr3)
  have q3 : ¬ ((0 : Int) = 0 ∧ c3.state = 3) := fun q => hs3 q.2
  unfold OneIn oneO oneN oneE at H3
  simp only [ne_eq, not_true_eq_false, if_false, hs3, and_false, e200] at H3
  have hless := hrun.less rfl h3 (k := min k 200000) (Nat.zero_le _) (Nat.zero_le _) (Nat.zero_le _)
  have g1 : IntKind.i64.wrap (((c.pos / 8 : Nat) : Int) - 1) = ((c.pos / 8 - 1 : Nat) : Int) := by rw [IntWalk.i64_in _ (by omega)]; omega
  have g2 : decide (((c.pos / 8 : Nat) : Int) < 0) = false := decide_eq_false (by omega)
  have g3 : decide ((a0.size : Int) < ((c.pos / 8 : Nat) : Int)) = false := by simp; omega
  have g4 : decide ((0 : Int) < ((c.pos / 8 : Nat) : Int)) = true := by simp; omega
  have g3' : decide (a0.size < c.pos / 8) = false := by simp; omega
  have g4' : decide (0 < c.pos / 8) = true := by simp; omega
  have g5 : c.pos / 8 - 1 ≤ a0.size := by omega
  have m1 : (if (k : Int) < 200000 then (k : Int) else 200000) = ((min k 200000 : Nat) : Int) := by split <;> omega
  have m2 : (if (200000 : Int) < (k : Int) then (200000 : Int) else (k : Int)) = ((min k 200000 : Nat) : Int) := by split <;> omega
  have hkk : min k 200000 ≤ 200000 := by omega
  have hko : c.out.length ≤ k ↔ c.out.length ≤ min k 200000 := by omega
  clear ek hmv hev hwt hp1 hr3 q3 hs3 he eo en
  have hosz : (ByteArray.mk c.out.toArray).size = c.out.length := by simp [ByteArray.size]
  by_cases hc : c.out.length ≤ k
  · have hr2 := hless.1 (hko.1 hc)
    have H2 := fun w => Lib.hid (one_run (min k 200000) a0 w c 0 (by omega) (by omega) hr2)
    unfold OneIn oneO oneN oneE at H2
    simp only [h3, and_self, if_true, ne_eq, not_true_eq_false, if_false] at H2
    have g6 : decide ((c.out.length : Int) ≤ (k : Int)) = true := by simp; omega
    clear hless hr2 hrun h3 hko hc hkk
    generalize hkI : (k : Int) = kI at *
    clear hkI hk
    generalize c.pos / 8 - 1 = n1 at *
    generalize c.pos / 8 = nn at *
    generalize min k 200000 = kk at *
    generalize hol : c.out.length = ol at *
    generalize c.out = oo at *
    clear hol
    have m3 : (if 0 < n1 then (n1 : Int) else 0) = (n1 : Int) := by split <;> omega
    have m3' : (if (0 : Int) < (n1 : Int) then (n1 : Int) else 0) = (n1 : Int) := by split <;> omega
    go_enter Try.func7, Try.ntmps7
    go_wp2_with (first | (go_at_call 27; with_reducible refine (H1 _).out.mono ?_; rintro q w1 ⟨rfl, hb1⟩; clear H1) | (go_at_call 25; refine (HF _).out.mono ?_; rintro e w2 ⟨rfl, hb2⟩; clear HF) | (go_at_call 27; with_reducible refine (H2 _).out.mono ?_; rintro q w3 ⟨rfl, hb3⟩; clear H2) | (go_at_call 27; with_reducible refine (H3 _).out.mono ?_; rintro q w4 ⟨rfl, hb4⟩; clear H3))
    go_ret
    exact ⟨rfl, belThen (belThen (belThen hb1 hb2) hb3) hb4⟩
  · obtain ⟨c2, hr2⟩ := hless.2 (by omega)
    have H2 := fun w => Lib.hid (one_run (min k 200000) a0 w c2 93 (by omega) (by omega) hr2)
    have q9 : ¬ ((93 : Int) = 0 ∧ c2.state = 3) := fun q => by cases q.1
    unfold OneIn oneO oneN oneE at H2
    rw [if_neg q9, if_neg q9, if_pos (by omega)] at H2
    have g6 : decide ((c.out.length : Int) ≤ (k : Int)) = false := by simp; omega
    clear hless hr2 hrun h3 hko hc hkk q9
    generalize hkI : (k : Int) = kI at *
    clear hkI hk
    generalize c.pos / 8 - 1 = n1 at *
    generalize c.pos / 8 = nn at *
    generalize min k 200000 = kk at *
    generalize hol : c.out.length = ol at *
    generalize c.out = oo at *
    clear hol
    have m3 : (if 0 < n1 then (n1 : Int) else 0) = (n1 : Int) := by split <;> omega
    have m3' : (if (0 : Int) < (n1 : Int) then (n1 : Int) else 0) = (n1 : Int) := by split <;> omega
    go_enter Try.func7, Try.ntmps7
    go_wp2_with (first | (go_at_call 27; with_reducible refine (H1 _).out.mono ?_; rintro q w1 ⟨rfl, hb1⟩; clear H1) | (go_at_call 25; refine (HF _).out.mono ?_; rintro e w2 ⟨rfl, hb2⟩; clear HF) | (go_at_call 27; with_reducible refine (H2 _).out.mono ?_; rintro q w3 ⟨rfl, hb3⟩; clear H2) | (go_at_call 27; with_reducible refine (H3 _).out.mono ?_; rintro q w4 ⟨rfl, hb4⟩; clear H3))
    go_ret
    exact ⟨rfl, belThen (belThen (belThen hb1 hb2) hb3) hb4⟩
end Go.Proofs.Ytcjcmlnbchmnnaa
