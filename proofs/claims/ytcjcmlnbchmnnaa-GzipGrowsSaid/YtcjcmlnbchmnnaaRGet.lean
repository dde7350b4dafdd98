/- the reference's Get: the number of bytes: its contract. -/
import Derived.Test.YtcjcmlnbchmnnaaProg
import Derived.Test.YtcjcmlnbchmnnaaPl
import Derived.Test.YtcjcmlnbchmnnaaWords
import Derived.WalkKit
import Derived.WalkSpells
import Derived.WalkLawsBesides
import Derived.Lib.Hide
import Derived.Outline
namespace Go.Proofs.Ytcjcmlnbchmnnaa
open Go.RowKit

set_option maxHeartbeats 400000 in
theorem rget_yes (s : ByteArray) (w : World) (h1 : 1 ≤ s.size) (h7 : s.size ≤ 7) :
    Calls Try.prog 42 #[.string s] w fun e w' => e = .returned (.tuple #[.int .i64 (Cm.getN s.data.toList : Nat), .int .i64 0]) ∧ w = w' := by
  have hmax := Cm.getN_max s h7
  go_enter Try.func42, Try.ntmps42
  go_wp2
  go_loop [4, 5] (fun n i => ∃ k : Nat, k ≤ s.size ∧ i = .int .i64 ((k : Int) - 1) ∧ n = .int .i64 (Cm.getN (s.data.toList.drop k) : Nat)) (fun _ i => (intOf i + 1).toNat)
  case atStart => exact ⟨s.size, by omega, rfl, by rw [Cm.drop_all s s.size (by omega)]; rfl⟩
  case round =>
    obtain ⟨k, hk, rfl, rfl⟩ := hrel
    cases k with
    | zero =>
      go_wp2
      go_ret2
      exact ⟨rfl, rfl⟩
    | succ k =>
      have hd := Cm.getN_drop s k (by omega)
      have hb := Cm.byte_lt s[k]
      have hx := Cm.getN_drop_max s k h7
      have HD := Lib.hid hd
      have e : ((k + 1 : Nat) : Int) - 1 = k := by omega
      rw [e]
      have hx2 : 256 * (Cm.getN (s.data.toList.drop (k + 1)) : Int) + (s[k].toNat : Int) ≤ 72057594037927936 := by omega
      clear hd e
      go_wp2
      go_round
      case rel => exact ⟨k, by omega, rfl, val_int (by rw [HD.out]; simp; omega)⟩
      case measure => simp [intOf]
theorem rget_no (s : ByteArray) (w : World) (h : s.size = 0 ∨ 7 < s.size) (hm : s.size ≤ maxLen) :
    Calls Try.prog 42 #[.string s] w fun e w' => e = .returned (.tuple #[.int .i64 0, .int .i64 20]) ∧ w = w' := by
  unfold maxLen at hm
  rcases h with h | h
  · have h' : (s.size : Int) < 1 := by omega
    go_enter Try.func42, Try.ntmps42
    go_wp2
    go_ret2
    exact ⟨rfl, rfl⟩
  · go_enter Try.func42, Try.ntmps42
    go_wp2
    go_ret2
    exact ⟨rfl, rfl⟩
end Go.Proofs.Ytcjcmlnbchmnnaa
