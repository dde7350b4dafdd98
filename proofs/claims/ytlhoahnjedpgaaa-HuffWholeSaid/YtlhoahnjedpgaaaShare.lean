/- the reference's Share: that of lengths: its contract. -/
import Derived.Test.YtlhoahnjedpgaaaCounted
namespace Go.Proofs.Ytlhoahnjedpgaaa
open Go.RowKit

theorem part_shr (l : Nat) (h : l ≤ 15) (h0 : l ≠ 0) : (32768 : Int) / 2 ^ l = (Hm.part l : Nat) := by
  unfold Hm.part; rw [if_neg h0]
  have e : (32768 : Nat) = 2 ^ (15 - l) * 2 ^ l := by rw [← Nat.pow_add, show 15 - l + l = 15 by omega]
  have : (32768 : Int) / 2 ^ l = ((32768 / 2 ^ l : Nat) : Int) := by simp
  rw [this, e, Nat.mul_div_cancel _ (Nat.two_pow_pos _)]

set_option maxRecDepth 100000 in
set_option maxHeartbeats 1000000 in
theorem share_in (ao : Option Addr) (cap : Nat) (ns : List Nat) (w : World) (hs : SInts w ao (ints ns)) (hsh : Hm.Short ns) (hl : ns.length ≤ 288) :
    Calls Try.prog 16 #[.slice ao ns.length cap] w fun e w' => e = .returned (.int .i64 (Hm.share ns : Nat)) ∧ w = w' := by
  go_enter Try.func16, Try.ntmps16
  go_wp2
  go_loop [3, 4] (fun sh i => ∃ k : Nat, k ≤ ns.length ∧ i = .int .i64 k ∧ sh = .int .i64 (Hm.share (ns.take k) : Nat)) (fun _ i => ns.length - (intOf i).toNat)
  case atStart => exact ⟨0, by omega, rfl, rfl⟩
  case round =>
    obtain ⟨k, hk, rfl, rfl⟩ := hrel
    by_cases hlt : k < ns.length
    · obtain ⟨b, o, hix, hc, hbl⟩ := hs.atN k hlt cap
      have hl15 := Hm.len_le hsh k
      have hsb : Hm.share (ns.take k) ≤ 9437184 := share_le ns k hl
      have HSH := Lib.hid (share_step ns k hlt)
      generalize hlk : Hm.len ns k = l at *
      clear hlk
      generalize Hm.share (ns.take k) = sh at *
      by_cases hz : l = 0
      · subst hz
        go_wp2
        go_round
        case rel => exact ⟨k + 1, by omega, by go_num, val_int (by rw [HSH.out]; simp [Hm.part])⟩
        case measure => simp [intOf]; omega
      · have hp := part_shr l hl15 hz
        have hpb : Hm.part l ≤ 32768 := by
          unfold Hm.part; rw [if_neg hz]; exact Nat.pow_le_pow_right (n := 2) (j := 15) (by omega) (by omega)
        have hp0 : (0 : Int) ≤ 32768 / 2 ^ l := by rw [hp]; omega
        have hp1 : (32768 : Int) / 2 ^ l ≤ 32768 := by rw [hp]; omega
        have HP := Lib.hid hp
        clear hp
        go_wp2
        go_round
        case rel => exact ⟨k + 1, by omega, by go_num, val_int (by rw [HSH.out, HP.out]; simp)⟩
        case measure => simp [intOf]; omega
    · obtain rfl : k = ns.length := by omega
      rw [List.take_length]
      go_wp2
      go_ret
      exact ⟨rfl, rfl⟩
end Go.Proofs.Ytlhoahnjedpgaaa
