/- farrierlaw02.CodesSums: the walk, for strings within the second form's bound. -/
import Derived.Test.YthdabijojboehaaRUnhex
import Derived.Test.YthdabijojboehaaCrc
import Derived.Test.YthdabijojboehaaRCrc
import Derived.Test.YthdabijojboehaaFixed02
namespace Go.Proofs.Ythdabijojboehaa
open Go.RowKit

set_option maxHeartbeats 400000 in
theorem walk_CodesSums (a0 : Int) (a1 : ByteArray) (w0 : (Lit.int .u32 a0).wf = true) (z1 : a1.size ≤ 1048576) (w : World) :
    Calls Try.prog 4 #[.int .u32 a0, .string a1] w fun e w' => e = .returned (.bool true) ∧ Below w.heap.size w w' := by
  have hb0 := u32_bd w0
  obtain ⟨s, rfl⟩ := Int.eq_ofNat_of_zero_le hb0.1
  clear w0
  have hs : s < 4294967296 := by omega
  cases hu : Cm.unhex a1.data.toList
  case' none =>
    have HV := Lib.hid (unhexV_none hu)
  case' some t =>
    have HV := Lib.hid (unhexV_some hu)
  all_goals
    clear hu
    go_enter Try.func4, Try.ntmps4
    go_wp2_with fail
    refine (unhex_any _ _ (by omega)).mono ?_
    rintro e w1 ⟨rfl, hb1⟩
    rw [HV.out]
    go_wp2_with fail
    refine (runhex_any _ _ (by omega)).mono ?_
    rintro e w2 ⟨rfl, hb2⟩
    rw [HV.out]
    go_wp2_with fail
    refine (fixed02 _).mono ?_
    rintro e w3 ⟨rfl, hb3⟩
    go_wp2_with fail
    refine (crc_any _ _ _ hs (by unfold maxLen; omega)).mono ?_
    rintro e w4 ⟨rfl, rfl⟩
    go_wp2_with fail
    refine (rcrc_any _ _ _ hs (by unfold maxLen; omega)).mono ?_
    rintro e w4 ⟨rfl, rfl⟩
    go_wp2_with fail
    refine (hex_any _ _ (by omega)).mono ?_
    rintro e w5 ⟨rfl, hb5⟩
    go_wp2_with fail
    refine (rhex_any _ _ (by omega)).mono ?_
    rintro e w6 ⟨rfl, hb6⟩
    generalize Cm.hex a1.data.toList = hx at *
    go_wp2_with fail
    go_ret
    exact ⟨rfl, belThen (belThen (belThen (belThen hb1 hb2) hb3) hb5) hb6⟩
end Go.Proofs.Ythdabijojboehaa
