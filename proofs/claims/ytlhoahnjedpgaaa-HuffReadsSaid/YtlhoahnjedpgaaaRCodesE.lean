/- the reference's Codes where lengths may not be: its contract. -/
import Derived.Test.YtlhoahnjedpgaaaRCodes
namespace Go.Proofs.Ytlhoahnjedpgaaa
open Go.RowKit

set_option maxRecDepth 100000 in
set_option maxHeartbeats 2000000 in
theorem rcodes_err (ao : Option Addr) (cap : Nat) (ns : List Nat) (w : World) (hs : SInts w ao (ints ns)) (hsh : Hm.Short ns) (hl : ns.length ≤ 288) (herr : Hm.err ns ≠ 0) :
    Calls Try.prog 8 #[.slice ao ns.length cap] w fun e w' => e = .returned (.tuple #[.slice none 0 0, .int .i64 (Hm.err ns)]) ∧ Below w.heap.size w w' := by
  by_cases h81 : 32768 < Hm.share ns
  · have HE : Hid (Hm.err ns = 81) := by show _ = _; unfold Hm.err; rw [if_pos h81]
    clear herr
    go_enter Try.func8, Try.ntmps8
    go_wp2_with fail
    refine (share_in ao cap ns w hs hsh hl).mono ?_
    rintro e w1 ⟨rfl, rfl⟩
    have d0 : decide (((Hm.share ns : Nat) : Int) < 0) = false := by simp
    have d1 : decide ((32768 : Int) < ((Hm.share ns : Nat) : Int)) = true := by simp; omega
    generalize ((Hm.share ns : Nat) : Int) = sh at *
    go_wp2_with fail
    go_ret2
    exact ⟨by rw [HE.out]; rfl, Below.refl _ _⟩
  · have hc : Hm.share ns < 32768 ∧ 0 < Hm.share ns ∧ (ns.count 1 ≠ 1 ∨ 16384 < Hm.share ns) := by
      unfold Hm.err at herr
      rw [if_neg h81] at herr
      by_cases h : Hm.share ns < 32768 ∧ 0 < Hm.share ns ∧ (ns.count 1 ≠ 1 ∨ 16384 < Hm.share ns)
      · exact h
      · rw [if_neg h] at herr; exact absurd rfl herr
    have HE : Hid (Hm.err ns = 82) := by show _ = _; unfold Hm.err; rw [if_neg h81, if_pos hc]
    have hm0 := (Hm.mny_share ns hsh).2 hc.2.1
    have hfew := (Hm.few_iff ns hsh hc.2.1).2 hc.2.2
    have HF := Lib.hid hfew
    have hlt32 := hc.1
    clear herr hc hfew
    go_enter Try.func8, Try.ntmps8
    go_wp2_with fail
    refine (share_in ao cap ns w hs hsh hl).mono ?_
    rintro e w1 ⟨rfl, rfl⟩
    have d0 : decide (((Hm.share ns : Nat) : Int) < 0) = false := by simp
    have d1 : decide ((32768 : Int) < ((Hm.share ns : Nat) : Int)) = false := by simp; omega
    have d2 : decide (((Hm.share ns : Nat) : Int) < 32768) = true := by simp; omega
    clear hlt32 h81
    generalize ((Hm.share ns : Nat) : Int) = sh at *
    go_wp2_with fail
    clear d0 d1
    go_loop [5, 6, 7] (fun m la i => ∃ k : Nat, k ≤ ns.length ∧ i = .int .i64 k ∧ m = .int .i64 (Hm.mny (ns.take k) : Nat) ∧ la = .int .i64 (Hm.lst 0 (ns.take k) : Nat)) (fun _ _ i => ns.length - (intOf i).toNat)
    case atStart => exact ⟨0, by omega, rfl, rfl, rfl⟩
    case round =>
      obtain ⟨k, hk, rfl, rfl, rfl⟩ := hrel
      by_cases hlt : k < ns.length
      · obtain ⟨b, o, hix, hc, hbl⟩ := hs.atN k hlt cap
        have hmb := Hm.mny_le (ns.take k)
        rw [List.length_take] at hmb
        have HS1 : Hid (Hm.mny (ns.take (k + 1)) = Hm.mny (ns.take k) + if Hm.len ns k = 0 then 0 else 1) := by
          show _ = _; rw [List.take_succ_eq_append_getElem hlt, Hm.mny_snoc, Hm.len_get hlt]
        have HS2 : Hid (Hm.lst 0 (ns.take (k + 1)) = if Hm.len ns k = 0 then Hm.lst 0 (ns.take k) else Hm.len ns k) := by
          show _ = _; rw [List.take_succ_eq_append_getElem hlt, Hm.lst_snoc, Hm.len_get hlt]
        clear hm0 d2
        generalize Hm.len ns k = l at *
        generalize Hm.mny (ns.take k) = m at *
        generalize Hm.lst 0 (ns.take k) = la at *
        by_cases hz : l = 0
        · subst hz
          go_wp2
          go_round
          case rel => exact ⟨k + 1, by omega, by go_num, val_int (by rw [HS1.out]; simp), val_int (by rw [HS2.out]; simp)⟩
          case measure => simp [intOf]; omega
        · go_wp2
          go_round
          case rel => exact ⟨k + 1, by omega, by go_num, val_int (by rw [HS1.out, if_neg hz]; simp), val_int (by rw [HS2.out, if_neg hz])⟩
          case measure => simp [intOf]; omega
      · obtain rfl : k = ns.length := by omega
        rw [List.take_length]
        have e2 : decide ((0 : Int) < ((Hm.mny ns : Nat) : Int)) = true := by simp; omega
        have hcase := HF.out
        have e34 : (decide ((1 : Int) < ((Hm.mny ns : Nat) : Int)) = true) ∨ (decide ((1 : Int) < ((Hm.mny ns : Nat) : Int)) = false ∧ (((Hm.lst 0 ns : Nat) : Int) != 1) = true) := by
          by_cases h : 1 < Hm.mny ns
          · left; simp; omega
          · right; exact ⟨by simp; omega, by rw [bne_iff_ne]; omega⟩
        clear hcase HF hm0
        generalize ((Hm.mny ns : Nat) : Int) = mi at *
        generalize ((Hm.lst 0 ns : Nat) : Int) = li at *
        rcases e34 with e3 | ⟨e3, e4⟩
        · go_wp2
          go_ret2
          exact ⟨by rw [HE.out]; rfl, Below.refl _ _⟩
        · go_wp2
          go_ret2
          exact ⟨by rw [HE.out]; rfl, Below.refl _ _⟩
theorem rcodes_out (ao : Option Addr) (cap : Nat) (ls : List Int) (w : World) (hs : SInts w ao ls) (hbad : BadL ls) :
    Calls Try.prog 8 #[.slice ao ls.length cap] w fun e w' => e = .returned (.tuple #[.slice none 0 0, .int .i64 80]) ∧ Below w.heap.size w w' := by
  go_enter Try.func8, Try.ntmps8
  go_wp2_with fail
  refine (share_out ao cap ls w hs hbad).mono ?_
  rintro e w1 ⟨rfl, rfl⟩
  go_wp2_with fail
  go_ret2
  exact ⟨rfl, Below.refl _ _⟩
end Go.Proofs.Ytlhoahnjedpgaaa
