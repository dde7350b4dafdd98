/- codes.Get: the number of bytes: its contract. -/
import Derived.Test.YtcjcmlnbchmnnaaProg
import Derived.Test.YtcjcmlnbchmnnaaPl
import Derived.Test.YtcjcmlnbchmnnaaWords
import Derived.WalkKit
import Derived.WalkSpells
import Derived.WalkLawsBesides
import Derived.Lib.Hide
import Derived.Outline
namespace Go.Proofs.Ytcjcmlnbchmnnaa
open Go.RowKit

set_option maxHeartbeats 400000 in
theorem get_yes (s : ByteArray) (w : World) (h1 : 1 ≤ s.size) (h7 : s.size ≤ 7) :
    Calls Try.prog 81 #[.string s] w fun e w' => e = .returned (.tuple #[.int .i64 (Cm.getN s.data.toList : Nat), .int .i64 0]) ∧ w = w' := by
  have hne := isEmpty_pos s h1
  go_enter Try.func81, Try.ntmps81
  go_wp2
  go_loop [4, 15] (fun n i => ∃ k : Nat, k ≤ s.size ∧ i = .int .i64 k ∧ n = .int .i64 (Cm.getN (s.data.toList.take k) : Nat)) (fun _ i => s.size - (intOf i).toNat)
  case atStart => exact ⟨0, by omega, rfl, rfl⟩
  case round =>
    obtain ⟨k, hk, rfl, rfl⟩ := hrel
    by_cases hlt : k < s.size
    · have HS := Lib.hid (Cm.take_snoc s k hlt)
      have hk7 : k < 7 := by omega
      go_wp2
      go_round
      case rel =>
        refine ⟨k + 1, by omega, by go_num, ?_⟩
        rw [HS.out, Cm.getN_snoc, or_byte _ _ _ ?_ hk7 (Cm.byte_lt _)]
        · simp [Nat.min_eq_left hk]
        · have := Cm.getN_lt (s.data.toList.take k)
          simpa [Nat.min_eq_left hk] using this
      case measure => simp [intOf]; omega
    · go_wp2
      go_ret2
      exact ⟨ret_two (by rw [Cm.take_all s k (by omega)]) rfl, rfl⟩

theorem get_no (s : ByteArray) (w : World) (h : s.size = 0 ∨ 7 < s.size) (hm : s.size ≤ maxLen) :
    Calls Try.prog 81 #[.string s] w fun e w' => e = .returned (.tuple #[.int .i64 0, .int .i64 20]) ∧ w = w' := by
  unfold maxLen at hm
  rcases h with h | h
  · have hne := isEmpty_zero s h
    go_enter Try.func81, Try.ntmps81
    go_wp2
    go_ret2
    exact ⟨rfl, rfl⟩
  · have hne := isEmpty_pos s (by omega)
    go_enter Try.func81, Try.ntmps81
    go_wp2
    go_ret2
    exact ⟨rfl, rfl⟩

end Go.Proofs.Ytcjcmlnbchmnnaa
