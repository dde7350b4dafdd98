/- codes.Put: the bytes of a number: its contract. -/
import Derived.Test.YthdabijojboehaaBytes
import Derived.WalkLawsBesides
import Derived.Outline
namespace Go.Proofs.Ythdabijojboehaa
open Go.RowKit

set_option maxHeartbeats 400000 in
theorem put_yes (n b : Nat) (w : World) (hb1 : 1 ≤ b) (hb7 : b ≤ 7) (hn : n < 256 ^ b) :
    Calls Try.prog 10 #[.int .i64 n, .int .i64 b] w fun e w' => e = .returned (.tuple #[.string ⟨(Cm.putL n b).toArray⟩, .int .i64 0]) ∧ Below w.heap.size w w' := by
  obtain ⟨i0, hi, hz0, hz1, hz2⟩ := info_parts info_u8
  have hn2 : n < 72057594037927936 := Nat.lt_of_lt_of_le hn (pow256_le b hb7)
  have hq := shr_zero n b hn
  clear hn
  go_enter Try.func10, Try.ntmps10
  go_wp2_with (at_make; refine wpList_make_full _ rfl _ _ 36 rfl w.heap.size 5 i0 (.int .u8 0) 1 Try.underlying36 hi hz0 hz1 _ _ _ _ b rfl rfl rfl rfl ?b2 ?b3 (Nat.le_refl _) ?_)
  case b2 => rw [hz2]; omega
  case b3 => unfold maxLen; omega
  intro w0 hown0 hgrow0
  go_wp2
  go_loopw [29] (fun i wr => ∃ k : Nat, ∃ l : List UInt8, k ≤ b ∧ i = .int .i64 k ∧ l.length = b ∧ l.take k = Cm.putL n k ∧ wr.ownsRow w.heap.size 5 1 (.slice (some ⟨w.heap.size, 0, none⟩) b b) b (bvals l) ∧ Below w.heap.size w wr) (fun i _ => b - (intOf i).toNat)
  case atStart =>
    refine ⟨0, List.replicate b 0, by omega, rfl, by simp, rfl, ?_, (Below.refl _ _).grown hgrow0 (Nat.le_refl _) (fun k h => by cases h)⟩
    rw [← bvals_zeros, ← toList_madeCells_one]; exact hown0
  case round =>
    obtain ⟨k, l, hk, rfl, hl, hlk, hown, hbel⟩ := hrel
    have HL := Lib.hid hl
    have HK := Lib.hid hlk
    clear hl hlk
    by_cases hlt : k < b
    · obtain ⟨c0, _, hc⟩ := cell_own hown k hlt
      have hf := hown.frozenAt k
      go_wp2
      go_roundw
      case rel =>
        refine ⟨k + 1, l.set k (UInt8.ofNat (n / 256 ^ k)), by omega, by go_num, by simpa using HL.out, ?_, ?_, hbel.setCell (Nat.le_refl _) _⟩
        · rw [take_set_succ _ _ _ (by have := HL.out; omega), HK.out, Cm.putL_snoc]
        · rw [byte_shift]; exact stored_own hown k _
      case measure => simp [intOf]; omega
    · have hcv := conv_own hown
      go_wp2
      go_ret2
      refine ⟨ret_str_int ?_ rfl, hbel⟩
      have h1 := HK.out
      have h2 := HL.out
      obtain rfl : k = b := by omega
      rw [← h1, List.take_of_length_le (by omega)]

theorem put_no (n b : Int) (w : World) (hn0 : -9223372036854775808 ≤ n) (hn1 : n ≤ 9223372036854775807) (h : b < 1 ∨ 7 < b ∨ n < 0 ∨ 256 ^ b.toNat ≤ n) :
    Calls Try.prog 10 #[.int .i64 n, .int .i64 b] w fun e w' => e = .returned (.tuple #[.string ⟨#[]⟩, .int .i64 20]) ∧ w = w' := by
  by_cases h1 : b < 1
  · clear h
    go_enter Try.func10, Try.ntmps10
    go_wp2
    go_ret2
    exact ⟨rfl, rfl⟩
  by_cases h2 : 7 < b
  · clear h
    go_enter Try.func10, Try.ntmps10
    go_wp2
    go_ret2
    exact ⟨rfl, rfl⟩
  by_cases h3 : n < 0
  · clear h
    go_enter Try.func10, Try.ntmps10
    go_wp2
    go_ret2
    exact ⟨rfl, rfl⟩
  obtain ⟨m, rfl⟩ := Int.eq_ofNat_of_zero_le (show 0 ≤ n by omega)
  obtain ⟨c, rfl⟩ := Int.eq_ofNat_of_zero_le (show 0 ≤ b by omega)
  have h4 : 256 ^ c ≤ m := by
    rcases h with h | h | h | h
    · omega
    · omega
    · omega
    · rw [Int.toNat_natCast] at h
      have e : ((256 ^ c : Nat) : Int) = 256 ^ c := by simp
      rw [← e] at h; omega
  have hq := shr_some m c h4
  clear h h4
  have hc1 : 1 ≤ c := by omega
  have hc7 : c ≤ 7 := by omega
  clear h1 h2 h3
  go_enter Try.func10, Try.ntmps10
  go_wp2
  go_ret2
  exact ⟨rfl, rfl⟩
end Go.Proofs.Ythdabijojboehaa
