/- the reference's Put: the bytes of a number: its contract. -/
import Derived.Test.YtcjcmlnbchmnnaaBytes
import Derived.WalkLawsBesides
import Derived.Outline
namespace Go.Proofs.Ytcjcmlnbchmnnaa
open Go.RowKit

def putV (n b : Nat) : Value := if n < 256 ^ b then .tuple #[.string ⟨(Cm.putL n b).toArray⟩, .int .i64 0] else .tuple #[.string ⟨#[]⟩, .int .i64 20]
theorem putV_yes (n b : Nat) (h : n < 256 ^ b) : putV n b = .tuple #[.string ⟨(Cm.putL n b).toArray⟩, .int .i64 0] := if_pos h
theorem putV_no (n b : Nat) (h : 256 ^ b ≤ n) : putV n b = .tuple #[.string ⟨#[]⟩, .int .i64 20] := if_neg (by omega)

set_option maxRecDepth 100000 in
set_option maxHeartbeats 400000 in
theorem rput_in (n b : Nat) (w : World) (hb1 : 1 ≤ b) (hb7 : b ≤ 7) (hn : n ≤ 9223372036854775807) :
    Calls Try.prog 39 #[.int .i64 n, .int .i64 b] w fun e w' => e = .returned (putV n b) ∧ Below w.heap.size w w' := by
  obtain ⟨i0, hi, hz0, hz1, hz2⟩ := info_parts info_u8
  go_enter Try.func39, Try.ntmps39
  go_wp2
  go_loopw [0, 6, 7] (fun m v i wr => ∃ k : Nat, k ≤ b ∧ i = .int .i64 k ∧ m = .int .i64 (n / 256 ^ k : Nat) ∧ wr.ownsRow w.heap.size 5 1 v k (bvals (Cm.putL n k)) ∧ Below w.heap.size w wr) (fun _ _ i _ => b - (intOf i).toNat)
  case atStart => exact ⟨0, by omega, rfl, by simp, World.ownsRow_lit w #[] 0 (Nat.le_refl _) (Nat.zero_le _) rfl, (Below.refl _ _).alloc (Nat.le_refl _) _⟩
  case round =>
    obtain ⟨k, hk, rfl, rfl, hown, hbel⟩ := hrel
    have hq : n / 256 ^ k ≤ 9223372036854775807 := Nat.le_trans (Nat.div_le_self _ _) hn
    generalize hm : n / 256 ^ k = m at *
    have HM := Lib.hid hm
    clear hm
    by_cases hlt : k < b
    · go_wp2_with (at_builtin; refine wpList_append_own _ rfl _ _ 23 rfl w.heap.size 5 i0 (.int .u8 0) 1 1 Try.underlying23 hi hz0 hz1 hz2 rfl (by decide) _ _ _ rfl (hown.alloc _) ⟨wr.heap.size, 0, none⟩ 1 1 (bvals [UInt8.ofNat m]) rfl rfl ?c1 ?c2 ?c3 ?c4 ?c5 ?_)
      case c1 => exact new_bytes _ _ _ _ (by rw [bvals_one, mod_byte])
      case c2 => exact bvals_one' _
      case c3 => unfold maxLen; omega
      case c4 => omega
      case c5 => have := hbel.size; simp; omega
      intro v' w1 hown' hgrow _
      go_wp2
      go_roundw
      case rel =>
        refine ⟨k + 1, by omega, by go_num, val_int ?_, ?_, (hbel.alloc hbel.size _).grown hgrow (by have := hbel.size; simp; omega) (fun g hg => (hown.lt g hg).1)⟩
        · rw [← HM.out, Nat.pow_succ, ← Nat.div_div_eq_div_mul]; simp
        · rw [Cm.putL_snoc, bvals_append, HM.out]; exact hown'
      case measure => simp [intOf]; omega
    · obtain rfl : k = b := by omega
      by_cases hz : n < 256 ^ k
      · have hm0 : m = 0 := by rw [← HM.out]; exact Nat.div_eq_of_lt hz
        subst hm0
        have HV := Lib.hid (putV_yes n k hz)
        have hcv := conv_own hown
        clear hz
        go_wp2
        go_ret2
        exact ⟨by rw [HV.out]; rfl, hbel⟩
      · have hm0 : 0 < m := by rw [← HM.out]; exact (Nat.one_le_div_iff (Nat.pow_pos (by omega))).2 (by omega)
        have HV := Lib.hid (putV_no n k (by omega))
        clear hz
        go_wp2
        go_ret2
        exact ⟨by rw [HV.out]; rfl, hbel⟩

set_option maxRecDepth 100000 in
theorem rput_out (n b : Int) (w : World) (h : b < 1 ∨ 7 < b ∨ n < 0) :
    Calls Try.prog 39 #[.int .i64 n, .int .i64 b] w fun e w' => e = .returned (.tuple #[.string ⟨#[]⟩, .int .i64 20]) ∧ w = w' := by
  by_cases h1 : b < 1
  · clear h
    go_enter Try.func39, Try.ntmps39
    go_wp2
    go_ret2
    exact ⟨rfl, rfl⟩
  by_cases h2 : 7 < b
  · clear h
    go_enter Try.func39, Try.ntmps39
    go_wp2
    go_ret2
    exact ⟨rfl, rfl⟩
  have h3 : n < 0 := by omega
  clear h
  go_enter Try.func39, Try.ntmps39
  go_wp2
  go_ret2
  exact ⟨rfl, rfl⟩
end Go.Proofs.Ytcjcmlnbchmnnaa
