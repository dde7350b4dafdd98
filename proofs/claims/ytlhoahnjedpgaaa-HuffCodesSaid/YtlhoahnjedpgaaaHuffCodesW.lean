/- farrierlaw08.HuffCodes: the walk. -/
import Derived.Test.YtlhoahnjedpgaaaFixed08
import Derived.Test.YtlhoahnjedpgaaaRCodesE
namespace Go.Proofs.Ytlhoahnjedpgaaa
open Go.RowKit

theorem err_shareC {ns : List Nat} (h : Hm.err ns = 0) : Hm.share ns ≤ 32768 := by
  unfold Hm.err at h
  by_cases h1 : 32768 < Hm.share ns
  · rw [if_pos h1] at h; omega
  · omega
theorem same_codes (w : World) (g gm : Nat) (ns : List Nat) (hl : ns.length ≤ 288) (h : w.rowIs g 3 ns.length (cdf ns)) (h' : w.rowIs gm 3 ns.length (cdf ns)) :
    Calls Try.prog 11 #[.slice (some ⟨g, 0, none⟩) ns.length ns.length, .slice (some ⟨gm, 0, none⟩) ns.length ns.length] w fun e w' => e = .returned (.bool true) ∧ Below w.heap.size w w' := by
  have hh := same_any (some ⟨g, 0, none⟩) (some ⟨gm, 0, none⟩) ns.length ns.length _ _ w (codes_sints h) (codes_sints h') (by rw [ints_length]; unfold maxLen; simp; omega)
  rw [show (ints ((List.range ns.length).map (Hm.code ns))).length = ns.length from by rw [ints_length]; simp] at hh
  exact hh.mono fun e w' ⟨h1, h2⟩ => ⟨by rw [h1]; simp, h2⟩
theorem same_nil (w : World) : Calls Try.prog 11 #[.slice none 0 0, .slice none 0 0] w fun e w' => e = .returned (.bool true) ∧ Below w.heap.size w w' :=
  same_any none none 0 0 [] [] w (SInts.nil _ _) (SInts.nil _ _) (by decide)

set_option maxRecDepth 100000 in
set_option maxHeartbeats 2000000 in
theorem hcodes_in (a0 : Option Addr) (cap0 : Nat) (ns : List Nat) (w : World) (hs : SInts w a0 (ints ns)) (hsh : Hm.Short ns) (hl : ns.length ≤ 288) (herr : Hm.err ns = 0) (hsr : Hm.share ns ≤ 32768) :
    Calls Try.prog 3 #[.slice a0 ns.length cap0] w fun e w' => e = .returned (.bool true) ∧ Below w.heap.size w w' := by
  have HER := Lib.hid herr
  clear herr
  go_enter Try.func3, Try.ntmps3
  go_wp2_with fail
  refine (rcodes_valid a0 cap0 ns w hs hsh hl HER.out hsr).mono ?_
  rintro e w1 ⟨gm, hgm, rfl, hrm, hb1⟩
  go_wp2_with fail
  go_loopw [5, 6, 7, 8, 9, 10] (fun t _ _ _ _ _ wr => ∃ k : Nat, k ≤ 2 ∧ t = .int .i64 k ∧ wr.rowIs gm 3 ns.length (cdf ns) ∧ Below w.heap.size w wr) (fun t _ _ _ _ _ _ => 2 - (intOf t).toNat)
  case atStart => exact ⟨0, by omega, rfl, hrm, hb1⟩
  case round =>
    clear hrm hb1
    obtain ⟨k, hk, rfl, hrm, hbel⟩ := hrel
    by_cases hlt : k < 2
    · have hs1 := hs.later hbel
      go_wp2_with fail
      refine (codes_in a0 cap0 ns _ hs1 hsh hl HER.out hsr).mono ?_
      rintro e w2 ⟨g, hg, rfl, hr2, hb2⟩
      have hgne : gm < g := Nat.lt_of_lt_of_le hrm.lt hg
      go_wp2_with fail
      refine (new_in a0 cap0 ns _ (hs1.later hb2) hsh hl HER.out hsr).mono ?_
      rintro e w3 ⟨T, hT, rfl, ht3, hb3⟩
      clear ht3
      have hr3 := rowBelow hr2 hb3
      have hrm3 := rowBelow (rowBelow hrm hb2) hb3
      go_wp2_with fail
      refine (same_codes _ g gm ns hl hr3 hrm3).mono ?_
      rintro e w4 ⟨rfl, hb4⟩
      have hr4 := rowBelow hr3 hb4
      have hrm4 := rowBelow hrm3 hb4
      have hbel4 := belThen (belThen (belThen hbel hb2) hb3) hb4
      have hgw : w.heap.size ≤ g := Nat.le_trans hbel.size hg
      clear hr2 hr3 hrm hrm3 hbel hb2 hb3 hb4 hs1
      go_wp2_with fail
      go_loopw [10] (fun i wr => ∃ j : Nat, ∃ f : Nat → Value, j ≤ ns.length ∧ i = .int .i64 j ∧ wr.rowIs g 3 ns.length f ∧ wr.rowIs gm 3 ns.length (cdf ns) ∧ Below w.heap.size w wr) (fun i _ => ns.length - (intOf i).toNat)
      case atStart => exact ⟨0, _, by omega, rfl, hr4, hrm4, hbel4⟩
      case round =>
        clear hr4 hrm4 hbel4
        obtain ⟨j, f, hj, rfl, hr, hrm, hbel⟩ := hrel
        by_cases hlt2 : j < ns.length
        · have c0 := hr.cell (i := j) hlt2
          have f0 := hr.frozen j
          generalize f j = v at *
          go_wp2
          go_roundw
          case rel => exact ⟨j + 1, _, by omega, by go_num, hr.set j _, hrm.setOther (by simp; omega) _, hbel.setCell (p := ⟨g, j, none⟩) hgw _⟩
          case measure => simp [intOf]; omega
        · go_wp2
          go_roundw
          case rel => exact ⟨k + 1, by omega, by go_num, hrm, hbel⟩
          case measure => simp [intOf]; omega
    · go_wp2_with fail
      refine (fixed08 _).mono ?_
      rintro e w3 ⟨rfl, hb3⟩
      go_wp2_with fail
      go_ret
      exact ⟨rfl, belThen hbel hb3⟩

def Fails (f : Nat) (v : Value) (w : World) (r : Value) : Prop := ∀ w', Below w.heap.size w w' → Calls Try.prog f #[v] w' fun e w'' => e = .returned r ∧ Below w'.heap.size w' w''
set_option maxRecDepth 100000 in
set_option maxHeartbeats 2000000 in
theorem hcodes_no (a0 : Option Addr) (len cap0 : Nat) (w : World) (er : Int) (her : (er != 0) = true)
    (hR : Fails 8 (.slice a0 len cap0) w (.tuple #[.slice none 0 0, .int .i64 er])) (hC : Fails 9 (.slice a0 len cap0) w (.tuple #[.slice none 0 0, .int .i64 er])) (hN : Fails 10 (.slice a0 len cap0) w (.tuple #[.pointer none, .int .i64 er])) :
    Calls Try.prog 3 #[.slice a0 len cap0] w fun e w' => e = .returned (.bool true) ∧ Below w.heap.size w w' := by
  go_enter Try.func3, Try.ntmps3
  go_wp2_with fail
  refine (hR w (Below.refl _ _)).mono ?_
  rintro e w1 ⟨rfl, hb1⟩
  go_wp2_with fail
  go_loopw [5, 6, 7, 8, 9, 10] (fun t _ _ _ _ _ wr => ∃ k : Nat, k ≤ 2 ∧ t = .int .i64 k ∧ Below w.heap.size w wr) (fun t _ _ _ _ _ _ => 2 - (intOf t).toNat)
  case atStart => exact ⟨0, by omega, rfl, hb1⟩
  case round =>
    clear hb1
    obtain ⟨k, hk, rfl, hbel⟩ := hrel
    by_cases hlt : k < 2
    · go_wp2_with fail
      refine (hC _ hbel).mono ?_
      rintro e w2 ⟨rfl, hb2⟩
      go_wp2_with fail
      refine (hN _ (belThen hbel hb2)).mono ?_
      rintro e w3 ⟨rfl, hb3⟩
      go_wp2_with fail
      refine (same_nil _).mono ?_
      rintro e w4 ⟨rfl, hb4⟩
      have hbel4 := belThen (belThen (belThen hbel hb2) hb3) hb4
      go_wp2_with fail
      refine wp_loop_rounds 1 ?_
      rw [rounds_succ]
      go_wp2
      go_roundw
      case rel => exact ⟨k + 1, by omega, by go_num, hbel4⟩
      case measure => simp [intOf]; omega
    · go_wp2_with fail
      refine (fixed08 _).mono ?_
      rintro e w3 ⟨rfl, hb3⟩
      go_wp2_with fail
      go_ret
      exact ⟨rfl, belThen hbel hb3⟩
theorem walk_HuffCodes (a0 : Option Addr) (cap0 : Nat) (ls : List Int) (w : World) (hs : SInts w a0 ls) (hm : ls.length ≤ maxLen) (_hw : ∀ n ∈ ls, (Lit.int .i64 n).wf = true) :
    Calls Try.prog 3 #[.slice a0 ls.length cap0] w fun e w' => e = .returned (.bool true) ∧ Below w.heap.size w w' := by
  rcases bad_or ls with hbad | ⟨ns, rfl, hsh, hl⟩
  · exact hcodes_no a0 _ cap0 w 80 rfl (fun w' hb => rcodes_out a0 cap0 ls w' (hs.later hb) hbad) (fun w' hb => codes_out a0 cap0 ls w' (hs.later hb) hm hbad) (fun w' hb => new_out a0 cap0 ls w' (hs.later hb) hm hbad)
  · rw [ints_length]
    by_cases herr : Hm.err ns = 0
    · exact hcodes_in a0 cap0 ns w hs hsh hl herr (err_shareC herr)
    · exact hcodes_no a0 _ cap0 w (Hm.err ns) (by rw [bne_iff_ne]; exact herr) (fun w' hb => rcodes_err a0 cap0 ns w' (hs.later hb) hsh hl herr) (fun w' hb => codes_err a0 cap0 ns w' (hs.later hb) hsh hl herr) (fun w' hb => new_err a0 cap0 ns w' (hs.later hb) hsh hl herr)
end Go.Proofs.Ytlhoahnjedpgaaa
