/- codes.Hex: bytes in digits: its contract. -/
import Derived.Test.YthdabijojboehaaBytes
import Derived.WalkLawsBesides
import Derived.Test.YthdabijojboehaaRegs
import Derived.Outline
namespace Go.Proofs.Ythdabijojboehaa
open Go.RowKit

set_option maxHeartbeats 400000 in
theorem hex_any (s : ByteArray) (w : World) (hs : s.size ≤ 140737488351232) :
    Calls Try.prog 19 #[.string s] w fun e w' => e = .returned (.string ⟨(Cm.hex s.data.toList).toArray⟩) ∧ Below w.heap.size w w' := by
  obtain ⟨i0, hi, hz0, hz1, hz2⟩ := info_parts info_u8
  go_enter Try.func19, Try.ntmps19
  go_wp2_with (at_make; refine wpList_make_own _ rfl _ _ 36 rfl w.heap.size 5 i0 (.int .u8 0) 1 Try.underlying36 hi hz0 hz1 _ _ _ (2 * s.size) rfl rfl (by omega) ?b2 ?b3 (Nat.le_refl _) ?_)
  case b2 => rw [hz2]; omega
  case b3 => unfold maxLen; omega
  intro w0 hown0 hgrow0
  go_wp2
  go_loopw [3, 11] (fun v i wr => ∃ k : Nat, k ≤ s.size ∧ i = .int .i64 k ∧ v = .slice (some ⟨w.heap.size, 0, none⟩) (2 * k) (2 * s.size) ∧ wr.ownsRow w.heap.size 5 1 (.slice (some ⟨w.heap.size, 0, none⟩) (2 * k) (2 * s.size)) (2 * k) (bvals (Cm.hex (s.data.toList.take k))) ∧ Below w.heap.size w wr) (fun _ i _ => s.size - (intOf i).toNat)
  case atStart => exact ⟨0, by omega, rfl, rfl, hown0, (Below.refl _ _).grown hgrow0 (Nat.le_refl _) (fun k h => by cases h)⟩
  case round =>
    obtain ⟨k, hk, rfl, rfl, hown, hbel⟩ := hrel
    by_cases hlt : k < s.size
    · have HS := Lib.hid (Cm.take_snoc s k hlt)
      have hb := Cm.byte_lt s[k]
      have h0 : (0 : Int) ≤ (k : Int) := by omega
      have e1 : (s[k].toNat : Int) / 16 = ((s[k].toNat / 16 : Nat) : Int) := by omega
      have e2 : bits BinOp.and IntKind.u8 (s[k].toNat : Int) 15 = ((s[k].toNat % 16 : Nat) : Int) := by
        have := u8_and_nat s[k].toNat 15 hb (by omega)
        rw [nat_mask4] at this; exact this
      have b1 : s[k].toNat / 16 < 16 := by omega
      have b2 : s[k].toNat % 16 < 16 := by omega
      generalize hx : s[k].toNat / 16 = x at *
      generalize hy : s[k].toNat % 16 = y at *
      have HX := Lib.hid hx
      have HY := Lib.hid hy
      clear hx hy
      have c1 : (0 : Int) ≤ (x : Int) := by omega
      have c2 : (x : Int) < 16 := by omega
      have c3 : (0 : Int) ≤ (y : Int) := by omega
      have c4 : (y : Int) < 16 := by omega
      have h1 : (k : Int) < (s.size : Int) := by omega
      go_wp2
      go_region_law (refine step_append_fits rfl (.tmp 14) (.tmp 25) 36 rfl w.heap.size 5 i0 1 Try.underlying36 hi hz1 w.heap.size (2 * k) (2 * s.size) _ rfl ⟨wr.heap.size, 0, none⟩ 2 2 (bvals [Cm.digit x, Cm.digit y]) rfl (by first | exact hown.drew.alloc _ | exact (hown.alloc _).drew) rfl (new_bytes _ _ _ _ (by simp only [dig_get]; rfl)) (bvals_one' _) (by omega) ?_; intro w1 hown1 hgrow1)
      all_goals
        go_wp2
        go_roundw
        case rel =>
          refine ⟨k + 1, by omega, by go_num, rfl, ?_, (hbel.alloc hbel.size _).drew.grown hgrow1 (by have := hbel.size; simp; omega) (fun g hg => by cases hg; exact Nat.le_refl _)⟩
          rw [HS.out, Cm.hex_snoc, bvals_append, HX.out, HY.out]; exact hown1
        case measure => simp [intOf]; omega
    · have hcv := conv_own hown
      go_wp2
      go_ret
      exact ⟨ret_str (by rw [Cm.take_all s k (by omega)]), hbel⟩
end Go.Proofs.Ythdabijojboehaa
