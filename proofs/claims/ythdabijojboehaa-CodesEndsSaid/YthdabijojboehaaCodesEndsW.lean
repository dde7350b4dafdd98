/- farrierlaw02.CodesEnds: the walk. -/
import Derived.Test.YthdabijojboehaaCmEnds
import Derived.Test.YthdabijojboehaaCrc
import Derived.Test.YthdabijojboehaaFixed02
namespace Go.Proofs.Ythdabijojboehaa
open Go.RowKit

theorem put4 (n : Nat) (w : World) (h : n < 4294967296) :
    Calls Try.prog 10 #[.int .i64 n, .int .i64 4] w fun e w' => e = .returned (.tuple #[.string ⟨(Cm.putL n 4).toArray⟩, .int .i64 0]) ∧ Below w.heap.size w w' :=
  put_yes n 4 w (by decide) (by decide) (by simpa using h)
theorem app_list (a : ByteArray) (l : List UInt8) : (a ++ ByteArray.mk l.toArray).data.toList = a.data.toList ++ l := by simp
theorem app_max (a : ByteArray) (l : List UInt8) (ha : a.size ≤ 140737488351232) (hl : l.length ≤ 4) : (a ++ ByteArray.mk l.toArray).size ≤ maxLen := by
  have e : (ByteArray.mk l.toArray).size = l.length := by simp [ByteArray.size]
  rw [ByteArray.size_append, e]; unfold maxLen; omega
theorem crc0 (s : ByteArray) (w : World) (hs : s.size ≤ maxLen) :
    Calls Try.prog 17 #[.int .u32 0, .string s] w fun e w' => e = .returned (.int .u32 (Cm.crc 0 s.data.toList : Nat)) ∧ w = w' := crc_any 0 s w (by decide) hs

set_option maxHeartbeats 400000 in
theorem walk_CodesEnds (a0 : ByteArray) (a1 : Int) (w0 : a0.size ≤ 140737488351232) (w1 : (Lit.int .u32 a1).wf = true) (w : World) :
    Calls Try.prog 8 #[.string a0, .int .u32 a1] w fun e w' => e = .returned (.bool true) ∧ Below w.heap.size w w' := by
  have hb0 := u32_bd w1
  obtain ⟨x, rfl⟩ := Int.eq_ofNat_of_zero_le hb0.1
  clear w1
  have hx : x < 4294967296 := by omega
  have hc := Cm.crc_lt 0 a0.data.toList
  have E1 := Lib.hid ((Cm.crc_ends a0.data.toList (Cm.crc 0 a0.data.toList) hc).2 rfl)
  have E2 := Lib.hid (Cm.crc_ends a0.data.toList x hx)
  generalize hcc : Cm.crc 0 a0.data.toList = c at *
  have HC := Lib.hid hcc
  clear hcc
  go_enter Try.func8, Try.ntmps8
  go_wp2_with fail
  refine (crc0 _ _ (by unfold maxLen; omega)).mono ?_
  rintro e w4 ⟨rfl, rfl⟩
  rw [HC.out]
  go_wp2_with fail
  refine (put4 _ _ hc).mono ?_
  rintro e w1 ⟨rfl, hb1⟩
  go_wp2_with fail
  refine (put4 _ _ hx).mono ?_
  rintro e w2 ⟨rfl, hb2⟩
  have L1 := Cm.putL_length c 4
  have L2 := Cm.putL_length x 4
  have H1 := Lib.hid L1
  have H2 := Lib.hid L2
  clear L1 L2
  generalize Cm.putL c 4 = p1 at *
  generalize Cm.putL x 4 = p2 at *
  have l1 : p1.length ≤ 4 := Nat.le_of_eq H1.out
  have l2 : p2.length ≤ 4 := Nat.le_of_eq H2.out
  go_wp2_with fail
  refine (fixed02 _).mono ?_
  rintro e w3 ⟨rfl, hb3⟩
  go_wp2_with fail
  refine (crc0 _ _ (app_max _ _ (by omega) (by omega))).mono ?_
  rintro e w4 ⟨rfl, rfl⟩
  rw [app_list, E1.out]
  go_wp2_with fail
  refine (crc0 _ _ (app_max _ _ (by omega) (by omega))).mono ?_
  rintro e w4 ⟨rfl, rfl⟩
  rw [app_list]
  have hbel := (hb1.trans (hb2.mono hb1.size)).trans (hb3.mono (Nat.le_trans hb1.size hb2.size))
  by_cases hxc : x = c
  · rw [E2.out.2 hxc]
    subst hxc
    go_wp2_with fail
    go_ret
    exact ⟨rfl, hbel⟩
  · have n1 : ¬ Cm.crc 0 (a0.data.toList ++ p2) = 558161692 := fun h => hxc (E2.out.1 h)
    generalize Cm.crc 0 (a0.data.toList ++ p2) = d at *
    have d1 : ((d : Int) == 558161692) = false := by simp; omega
    have d2 : ((x : Int) == (c : Int)) = false := by simp; omega
    clear n1 hxc
    go_wp2_with fail
    go_ret
    exact ⟨rfl, hbel⟩
end Go.Proofs.Ythdabijojboehaa
