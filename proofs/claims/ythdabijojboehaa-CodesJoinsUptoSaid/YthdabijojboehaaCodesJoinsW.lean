/- farrierlaw02.CodesJoins: the walk, for strings within the second form's bound. -/
import Derived.Test.YthdabijojboehaaOwn
import Derived.Test.YthdabijojboehaaFixed02
namespace Go.Proofs.Ythdabijojboehaa
open Go.RowKit

theorem app_lists (a b : ByteArray) : (a ++ b).data.toList = a.data.toList ++ b.data.toList := by simp
theorem mk_app (l m : List UInt8) : ByteArray.mk (l ++ m).toArray = ByteArray.mk l.toArray ++ ByteArray.mk m.toArray := by
  apply ByteArray.ext; simp

theorem join_bd (k b n : Nat) (hn : n < 256 ^ b) (h : k + b ≤ 7) : 256 ^ k * n < 72057594037927936 := by
  have h1 : 256 ^ k * n < 256 ^ k * 256 ^ b := Nat.mul_lt_mul_of_pos_left hn (Nat.pow_pos (by omega))
  rw [← Nat.pow_add] at h1
  exact Nat.lt_of_lt_of_le h1 (pow256_le _ h)

set_option maxHeartbeats 1000000 in
theorem walk_CodesJoins (a0 : ByteArray) (a1 : ByteArray) (z0 : a0.size ≤ 1048576) (z1 : a1.size ≤ 1048576) (w : World) :
    Calls Try.prog 9 #[.string a0, .string a1] w fun e w' => e = .returned (.bool true) ∧ Below w.heap.size w w' := by
  have hz : (a0 ++ a1).size ≤ 140737488351232 := by rw [ByteArray.size_append]; omega
  go_enter Try.func9, Try.ntmps9
  go_wp2_with fail
  refine (fixed02 _).mono ?_
  rintro e w1 ⟨rfl, hb1⟩
  go_wp2_with fail
  refine (hex_any _ _ hz).mono ?_
  rintro e w2 ⟨rfl, hb2⟩
  rw [app_lists, Cm.hex_append, mk_app]
  have s0 : (ByteArray.mk (Cm.hex a0.data.toList).toArray).size ≤ 2097152 := by rw [← Cm.len_list]; simp [Cm.hex_length]; omega
  have s1 : (ByteArray.mk (Cm.hex a1.data.toList).toArray).size ≤ 2097152 := by rw [← Cm.len_list]; simp [Cm.hex_length]; omega
  have H0 := Lib.hid (fun w => hex_any a0 w (by omega))
  have H1 := Lib.hid (fun w => hex_any a1 w (by omega))
  generalize ByteArray.mk (Cm.hex a0.data.toList).toArray = h0 at *
  generalize ByteArray.mk (Cm.hex a1.data.toList).toArray = h1 at *
  go_wp2_with fail
  refine (H0.out _).mono ?_
  rintro e w3 ⟨rfl, hb3⟩
  go_wp2_with fail
  refine (H1.out _).mono ?_
  rintro e w4 ⟨rfl, hb4⟩
  have hbel := belThen (belThen (belThen hb1 hb2) hb3) hb4
  clear hb1 hb2 hb3 hb4 H0 H1
  go_wp2_with fail
  by_cases hg0 : 1 ≤ a0.size ∧ a0.size ≤ 7
  · obtain ⟨p0, q0⟩ := hg0
    refine (get_yes _ _ p0 q0).mono ?_
    rintro e w5 ⟨rfl, rfl⟩
    by_cases hg1 : 1 ≤ a1.size ∧ a1.size ≤ 7
    · obtain ⟨p1, q1⟩ := hg1
      have m0 := Cm.getN_lt a0.data.toList
      have m1 := Cm.getN_lt a1.data.toList
      rw [Cm.len_list] at m0 m1
      have HA := Lib.hid (Cm.getN_append a0.data.toList a1.data.toList)
      rw [Cm.len_list] at HA
      have HG := Lib.hid (fun w h h' => get_yes (a0 ++ a1) w h h')
      rw [app_lists] at HG
      have HG1 := Lib.hid (get_yes a1 w4 p1 q1)
      generalize Cm.getN a0.data.toList = n0 at *
      generalize Cm.getN a1.data.toList = n1 at *
      generalize Cm.getN (a0.data.toList ++ a1.data.toList) = n2 at *
      have M0 := Lib.hid m0
      have M1 := Lib.hid m1
      clear m0 m1
      go_wp2_with fail
      refine HG1.out.mono ?_
      rintro e w5 ⟨rfl, rfl⟩
      by_cases h7 : a0.size + a1.size ≤ 7
      · have hg : 1 ≤ (a0 ++ a1).size ∧ (a0 ++ a1).size ≤ 7 := by rw [ByteArray.size_append]; omega
        go_wp2_with fail
        refine (HG.out _ hg.1 hg.2).mono ?_
        rintro e w5 ⟨rfl, rfl⟩
        go_wp2_with fail
        go_loop [11, 12] (fun x i => ∃ k : Nat, k ≤ a0.size ∧ i = .int .i64 k ∧ x = .int .i64 (256 ^ k * n1 : Nat)) (fun _ i => a0.size - (intOf i).toNat)
        case atStart => exact ⟨0, by omega, rfl, by simp⟩
        case round =>
          obtain ⟨k, hk, rfl, rfl⟩ := hrel
          by_cases hlt : k < a0.size
          · have hy := join_bd (k + 1) a1.size n1 M1.out (by omega)
            have HY : Hid (256 ^ (k + 1) * n1 = 256 ^ k * n1 * 256) := by show _ = _; rw [Nat.pow_succ, Nat.mul_assoc, Nat.mul_assoc, Nat.mul_comm 256 n1]
            rw [HY.out] at hy
            generalize 256 ^ k * n1 = y at *
            go_wp2_with fail
            go_round
            case rel => exact ⟨k + 1, by omega, by go_num, val_int (by rw [HY.out]; simp)⟩
            case measure => simp [intOf]; omega
          · obtain rfl : k = a0.size := by omega
            have hy := join_bd a0.size a1.size n1 M1.out (by omega)
            have h0 := M0.out
            have hp := pow256_le a0.size (by omega)
            have hn0 : n0 < 72057594037927936 := Nat.lt_of_lt_of_le h0 hp
            have hf : (n2 : Int) = (n0 : Int) + ((256 ^ a0.size * n1 : Nat) : Int) := by have := HA.out; omega
            clear h0 hp
            generalize 256 ^ a0.size * n1 = y at *
            have hq : ((n2 : Int) == (n0 : Int) + (y : Int)) = true := by simp [hf]
            clear hf
            go_wp2_with fail
            go_ret
            exact ⟨rfl, hbel⟩
      · go_wp2_with fail
        go_ret
        exact ⟨rfl, hbel⟩
    · go_wp2_with fail
      refine (get_no a1 _ (by omega) (by unfold maxLen; omega)).mono ?_
      rintro e w5 ⟨rfl, rfl⟩
      go_wp2_with fail
      go_ret
      exact ⟨rfl, hbel⟩
  · refine (get_no a0 _ (by omega) (by unfold maxLen; omega)).mono ?_
    rintro e w5 ⟨rfl, rfl⟩
    go_wp2_with fail
    by_cases hg1 : 1 ≤ a1.size ∧ a1.size ≤ 7
    · refine (get_yes a1 _ hg1.1 hg1.2).mono ?_
      rintro e w5 ⟨rfl, rfl⟩
      go_wp2_with fail
      go_ret
      exact ⟨rfl, hbel⟩
    · refine (get_no a1 _ (by omega) (by unfold maxLen; omega)).mono ?_
      rintro e w5 ⟨rfl, rfl⟩
      go_wp2_with fail
      go_ret
      exact ⟨rfl, hbel⟩
end Go.Proofs.Ythdabijojboehaa
