/- the reference's digit and Hex: bytes in digits: their contracts. -/
import Derived.Test.YthdabijojboehaaBytes
import Derived.WalkLawsBesides
import Derived.Test.YthdabijojboehaaRegs
import Derived.Outline
namespace Go.Proofs.Ythdabijojboehaa
open Go.RowKit

theorem wrap_u8_nat (n : Nat) (h : n < 256) : IntKind.u8.wrap (n : Int) = n := by
  simp only [IntKind.wrap, IntKind.bits, IntKind.signed]
  simp
  omega
theorem digit_lo (x : Nat) (h : x < 10) : 48 + (x : Int) = ((Cm.digit x).toNat : Int) := by
  unfold Cm.digit; rw [if_pos h, UInt8.toNat_ofNat']; omega
theorem digit_hi (x : Nat) (h : 10 ≤ x) (h' : x < 16) : 97 + (x : Int) - 10 = ((Cm.digit x).toNat : Int) := by
  unfold Cm.digit; rw [if_neg (by omega), UInt8.toNat_ofNat']; omega
theorem rdigit_any (x : Nat) (w : World) (h : x < 16) :
    Calls Try.prog 23 #[.int .u8 x] w fun e w' => e = .returned (.int .u8 ((Cm.digit x).toNat : Int)) ∧ w = w' := by
  by_cases h10 : x < 10
  · go_enter Try.func23, Try.ntmps23
    go_wp2
    go_ret
    exact ⟨ret_int (digit_lo x h10), rfl⟩
  · go_enter Try.func23, Try.ntmps23
    go_wp2
    go_ret
    exact ⟨ret_int (digit_hi x (by omega) h), rfl⟩

set_option maxHeartbeats 400000 in
theorem rhex_any (s : ByteArray) (w : World) (hs : s.size ≤ 70368744177664) :
    Calls Try.prog 20 #[.string s] w fun e w' => e = .returned (.string ⟨(Cm.hex s.data.toList).toArray⟩) ∧ Below w.heap.size w w' := by
  obtain ⟨i0, hi, hz0, hz1, hz2⟩ := info_parts info_u8
  go_enter Try.func20, Try.ntmps20
  go_wp2
  go_loopw [3, 4] (fun v i wr => ∃ k : Nat, k ≤ s.size ∧ i = .int .i64 k ∧ wr.ownsRow w.heap.size 5 1 v (2 * k) (bvals (Cm.hex (s.data.toList.take k))) ∧ Below w.heap.size w wr) (fun _ i _ => s.size - (intOf i).toNat)
  case atStart => exact ⟨0, by omega, rfl, World.ownsRow_lit w #[] 0 (Nat.le_refl _) (Nat.zero_le _) rfl, (Below.refl _ _).alloc (Nat.le_refl _) _⟩
  case round =>
    rename_i v _
    obtain ⟨k, hk, rfl, hown, hbel⟩ := hrel
    by_cases hlt : k < s.size
    · have HS := Lib.hid (Cm.take_snoc s k hlt)
      have hb := Cm.byte_lt s[k]
      have h0 : (0 : Int) ≤ (k : Int) := by omega
      have e1 : (s[k].toNat : Int).tdiv 16 = ((s[k].toNat / 16 : Nat) : Int) := by rw [Int.tdiv_eq_ediv_of_nonneg (by omega)]; omega
      have e2 : (s[k].toNat : Int).tmod 16 = ((s[k].toNat % 16 : Nat) : Int) := by rw [Int.tmod_eq_emod_of_nonneg (by omega)]; omega
      have b1 : s[k].toNat / 16 < 16 := by omega
      have b2 : s[k].toNat % 16 < 16 := by omega
      generalize hx : s[k].toNat / 16 = x at *
      generalize hy : s[k].toNat % 16 = y at *
      have HX := Lib.hid hx
      have HY := Lib.hid hy
      clear hx hy
      have h1 : (k : Int) < (s.size : Int) := by omega
      have e3 : IntKind.u8.wrap (x : Int) = x := wrap_u8_nat x (by omega)
      have e4 : IntKind.u8.wrap (y : Int) = y := wrap_u8_nat y (by omega)
      go_wp2
      go_region_law (first | (refine step_append_own rfl (.tmp 12) (.tmp 23) 36 rfl w.heap.size 5 i0 (.int .u8 0) 1 1 Try.underlying36 hi hz0 hz1 hz2 rfl (by decide) _ (2 * k) _ rfl ⟨wr.heap.size, 0, none⟩ 2 2 (bvals [Cm.digit x, Cm.digit y]) rfl (by first | exact hown.drew.alloc _ | exact (hown.alloc _).drew) rfl (new_bytes _ _ _ _ rfl) (bvals_one' _) (by unfold maxLen; omega) (by omega) (by have := hbel.size; simp; omega) ?_; intro v' w1 hown1 hgrow1) | (go_simp; go_at_call 23; refine (rdigit_any _ _ (by assumption)).mono ?_; rintro e w' ⟨rfl, rfl⟩))
      all_goals
        go_wp2
        go_roundw
        case rel =>
          refine ⟨k + 1, by omega, by go_num, ?_, (hbel.alloc hbel.size _).drew.grown hgrow1 (by have := hbel.size; simp; omega) (fun g hg => (hown.lt g hg).1)⟩
          rw [HS.out, Cm.hex_snoc, bvals_append, HX.out, HY.out]; exact hown1
        case measure => simp [intOf]; omega
    · have hcv := conv_own hown
      go_wp2
      go_ret
      exact ⟨ret_str (by rw [Cm.take_all s k (by omega)]), hbel⟩
end Go.Proofs.Ythdabijojboehaa
