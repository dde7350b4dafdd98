/- farrierlaw02.CodesOn: the walk. -/
import Derived.Test.YthdabijojboehaaCrc
import Derived.Test.YthdabijojboehaaFixed02
namespace Go.Proofs.Ythdabijojboehaa
open Go.RowKit

set_option maxHeartbeats 400000 in
theorem walk_CodesOn (a0 : Int) (a1 : ByteArray) (a2 : ByteArray) (w0 : (Lit.int .u32 a0).wf = true) (w1 : a1.size ≤ 140737488351232) (w2 : a2.size ≤ 140737488351232) (w : World) :
    Calls Try.prog 6 #[.int .u32 a0, .string a1, .string a2] w fun e w' => e = .returned (.bool true) ∧ Below w.heap.size w w' := by
  have hb0 := u32_bd w0
  obtain ⟨s, rfl⟩ := Int.eq_ofNat_of_zero_le hb0.1
  clear w0
  have hs : s < 4294967296 := by omega
  go_enter Try.func6, Try.ntmps6
  go_wp2_with fail
  refine (fixed02 _).mono ?_
  rintro e w3 ⟨rfl, hb3⟩
  go_wp2_with fail
  have hc1 := Cm.crc_lt s a1.data.toList
  refine (crc_any _ _ _ hs (by unfold maxLen; omega)).mono ?_
  rintro e w4 ⟨rfl, rfl⟩
  have E1 := Lib.hid (Cm.crc_append s a1.data.toList a2.data.toList)
  generalize Cm.crc s a1.data.toList = c at *
  go_wp2_with fail
  refine (crc_any _ _ _ hc1 (by unfold maxLen; omega)).mono ?_
  rintro e w4 ⟨rfl, rfl⟩
  go_wp2_with fail
  refine (crc_any _ _ _ hs (by unfold maxLen; simp [ByteArray.size_append]; omega)).mono ?_
  rintro e w4 ⟨rfl, rfl⟩
  have e2 : (a1 ++ a2).data.toList = a1.data.toList ++ a2.data.toList := by simp
  rw [e2, ← E1.out]
  clear e2
  go_wp2_with fail
  refine (crc_any _ _ _ hs (by decide)).mono ?_
  rintro e w4 ⟨rfl, rfl⟩
  rw [show (ByteArray.mk #[]).data.toList = [] from rfl, Cm.crc_nil s hs]
  go_wp2_with fail
  go_ret
  exact ⟨rfl, hb3⟩
end Go.Proofs.Ythdabijojboehaa
