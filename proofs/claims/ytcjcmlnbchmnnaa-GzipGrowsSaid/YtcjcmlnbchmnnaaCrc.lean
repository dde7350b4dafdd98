/- codes.Crc: the sum of bytes: its contract. -/
import Derived.Test.YtcjcmlnbchmnnaaProg
import Derived.Test.YtcjcmlnbchmnnaaPl
import Derived.Test.YtcjcmlnbchmnnaaWords
import Derived.WalkKit
import Derived.WalkSpells
import Derived.WalkLawsBesides
import Derived.Lib.Hide
import Derived.Outline
namespace Go.Proofs.Ytcjcmlnbchmnnaa
open Go.RowKit

set_option maxHeartbeats 400000 in
theorem crc_any (sum : Nat) (s : ByteArray) (w : World) (h : sum < 4294967296) (hs : s.size ≤ maxLen) :
    Calls Try.prog 52 #[.int .u32 sum, .string s] w fun e w' => e = .returned (.int .u32 (Cm.crc sum s.data.toList : Nat)) ∧ w = w' := by
  unfold maxLen at hs
  go_enter Try.func52, Try.ntmps52
  go_wp2
  go_loop [5, 12] (fun n i => ∃ k : Nat, k ≤ s.size ∧ i = .int .i64 k ∧ n = .int .u32 (Cm.run (Cm.inv sum) (s.data.toList.take k) : Nat)) (fun _ i => s.size - (intOf i).toNat)
  case atStart => exact ⟨0, by omega, rfl, val_int (crc_inv sum (by assumption))⟩
  case round =>
    obtain ⟨k, hk, rfl, rfl⟩ := hrel
    have hr := Cm.run_lt (s.data.toList.take k) _ (Cm.inv_lt sum)
    generalize hrr : Cm.run (Cm.inv sum) (s.data.toList.take k) = r at *
    have HR := Lib.hid hrr
    clear hrr
    by_cases hlt : k < s.size
    · have HS := Lib.hid (Cm.take_snoc s k hlt)
      go_wp2
      go_loop [5, 21] (fun n i => ∃ j : Nat, j ≤ 8 ∧ i = .int .i64 j ∧ n = .int .u32 (Cm.steps j (r ^^^ s[k].toNat) : Nat)) (fun _ i => 8 - (intOf i).toNat)
      case atStart => exact ⟨0, by omega, rfl, val_int (xor_byte32 r s[k] hr)⟩
      case round =>
        obtain ⟨j, hj, rfl, rfl⟩ := hrel
        have hx := Cm.steps_lt j _ (Cm.xor_byte_lt r s[k] hr)
        generalize hxx : Cm.steps j (r ^^^ s[k].toNat) = x at *
        have HX := Lib.hid hxx
        clear hxx
        by_cases hlt8 : j < 8
        · go_wp2
          · go_round
            case rel => exact ⟨j + 1, by omega, by go_num, val_int (by rw [crc_odd x hx (by assumption), Cm.steps, HX.out])⟩
            case measure => simp [intOf]; omega
          · go_round
            case rel => exact ⟨j + 1, by omega, by go_num, val_int (by rw [crc_even x hx (by assumption), Cm.steps, HX.out])⟩
            case measure => simp [intOf]; omega
        · go_wp2
          go_round
          case rel => exact ⟨k + 1, by omega, by go_num, val_int (by rw [HS.out, Cm.run_snoc, HR.out, Cm.byteStep, ← HX.out]; obtain rfl : j = 8 := by omega
                                                                     rfl)⟩
          case measure => simp [intOf]; omega
    · go_wp2
      go_ret
      exact ⟨ret_int (by rw [crc_inv r hr, ← HR.out, Cm.take_all s k (by omega)]; rfl), rfl⟩
end Go.Proofs.Ytcjcmlnbchmnnaa
