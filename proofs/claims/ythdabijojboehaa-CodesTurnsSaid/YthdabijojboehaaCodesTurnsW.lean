/- farrierlaw02.CodesTurns: the walk. -/
import Derived.Test.YthdabijojboehaaTurned
import Derived.Test.YthdabijojboehaaCrc
import Derived.Test.YthdabijojboehaaFixed02
namespace Go.Proofs.Ythdabijojboehaa
open Go.RowKit

theorem pow_byte (k : Nat) : (2 : Int) ^ (k % 8) % 256 = ((UInt8.ofNat (2 ^ (k % 8))).toNat : Int) := by
  rw [← mod_byte]; simp
theorem pow_ne (k : Nat) : UInt8.ofNat (2 ^ (k % 8)) ≠ 0 := by
  have all : ∀ j : Fin 8, UInt8.ofNat (2 ^ j.val) ≠ 0 := by decide
  exact all ⟨k % 8, Nat.mod_lt _ (by decide)⟩
theorem crc_0 (s : ByteArray) (w : World) (hs : s.size ≤ maxLen) :
    Calls Try.prog 17 #[.int .u32 0, .string s] w fun e w' => e = .returned (.int .u32 (Cm.crc 0 s.data.toList : Nat)) ∧ w = w' := crc_any 0 s w (by decide) hs

set_option maxHeartbeats 1000000 in
theorem walk_CodesTurns (a0 : ByteArray) (a1 : ByteArray) (a2 : ByteArray) (z0 : a0.size ≤ 140737488351232) (z1 : a1.size ≤ 140737488351232) (z2 : a2.size ≤ 140737488351232) (w : World) :
    Calls Try.prog 7 #[.string a0, .string a1, .string a2] w fun e w' => e = .returned (.bool true) ∧ Below w.heap.size w w' := by
  go_enter Try.func7, Try.ntmps7
  go_wp2_with fail
  case' inl =>
    have HX : Hid ((a0.extract 0 a2.size).size = a2.size) := by show _ = _; simp; omega
    have HY : Hid ((a1.extract 0 a2.size).size = a2.size) := by show _ = _; simp; omega
    have hn : a2.size ≤ 140737488351232 := z2
    obtain ⟨z, rfl⟩ : ∃ z, z = a2 := ⟨_, rfl⟩
    generalize hh : z.size = n at *
    have HZ := Lib.hid hh
    clear hh
    generalize a0.extract 0 n = x at *
    generalize a1.extract 0 n = y at *
  case' inr.inl =>
    have HX : Hid ((a0.extract 0 a1.size).size = a1.size) := by show _ = _; simp; omega
    have HZ : Hid ((a2.extract 0 a1.size).size = a1.size) := by show _ = _; simp; omega
    have hn : a1.size ≤ 140737488351232 := z1
    obtain ⟨y, rfl⟩ : ∃ y, y = a1 := ⟨_, rfl⟩
    generalize hh : y.size = n at *
    have HY := Lib.hid hh
    clear hh
    generalize a0.extract 0 n = x at *
    generalize a2.extract 0 n = z at *
  case' inr.inr =>
    have HY : Hid ((a1.extract 0 a0.size).size = a0.size) := by show _ = _; simp; omega
    have HZ : Hid ((a2.extract 0 a0.size).size = a0.size) := by show _ = _; simp; omega
    have hn : a0.size ≤ 140737488351232 := z0
    obtain ⟨x, rfl⟩ : ∃ x, x = a0 := ⟨_, rfl⟩
    generalize hh : x.size = n at *
    have HX := Lib.hid hh
    clear hh
    generalize a1.extract 0 n = y at *
    generalize a2.extract 0 n = z at *
  all_goals
    refine (turned_any x y _ (by rw [HX.out]; unfold maxLen; omega) (by rw [HX.out, HY.out])).mono ?_
    rintro e w1 ⟨rfl, hb1⟩
    have LX : Hid (x.data.toList.length = n) := by show _ = _; rw [Cm.len_list, HX.out]
    have LY : Hid (y.data.toList.length = n) := by show _ = _; rw [Cm.len_list, HY.out]
    have LZ : Hid (z.data.toList.length = n) := by show _ = _; rw [Cm.len_list, HZ.out]
    have E3 := Lib.hid (Cm.crc_three x.data.toList y.data.toList z.data.toList (by rw [LX.out, LY.out]) (by rw [LY.out, LZ.out]))
    have LT : Hid ((ByteArray.mk (Cm.xorL x.data.toList y.data.toList).toArray).size = n) := by
      show _ = _
      rw [← Cm.len_list]; simp [Cm.xorL_length _ _ (LX.out.trans LY.out.symm), LX.out]
    have DT : Hid ((ByteArray.mk (Cm.xorL x.data.toList y.data.toList).toArray).data.toList = Cm.xorL x.data.toList y.data.toList) := by show _ = _; simp
    generalize ByteArray.mk (Cm.xorL x.data.toList y.data.toList).toArray = t at *
    go_wp2_with fail
    refine (turned_any t z _ (by rw [LT.out]; unfold maxLen; omega) (by rw [LT.out, HZ.out])).mono ?_
    rintro e w2 ⟨rfl, hb2⟩
    rw [DT.out]
    have LU : Hid ((ByteArray.mk (Cm.xorL (Cm.xorL x.data.toList y.data.toList) z.data.toList).toArray).size = n) := by
      show _ = _
      have e1 := Cm.xorL_length _ _ (LX.out.trans LY.out.symm)
      rw [← Cm.len_list]; simp [Cm.xorL_length _ _ (e1.trans (LX.out.trans LZ.out.symm)), e1, LX.out]
    have DU : Hid ((ByteArray.mk (Cm.xorL (Cm.xorL x.data.toList y.data.toList) z.data.toList).toArray).data.toList = Cm.xorL (Cm.xorL x.data.toList y.data.toList) z.data.toList) := by show _ = _; simp
    generalize ByteArray.mk (Cm.xorL (Cm.xorL x.data.toList y.data.toList) z.data.toList).toArray = u at *
    go_wp2_with fail
    refine (fixed02 _).mono ?_
    rintro e w3 ⟨rfl, hb3⟩
    go_wp2_with fail
    refine (crc_0 u _ (by rw [LU.out]; unfold maxLen; omega)).mono ?_
    rintro e w4 ⟨rfl, rfl⟩
    rw [DU.out, E3.out]
    clear DT DU LT LU E3
    have C1 := Cm.crc_lt 0 x.data.toList
    have C2 := Cm.crc_lt 0 y.data.toList
    have C3 := Cm.crc_lt 0 z.data.toList
    go_wp2_with fail
    refine (crc_0 x _ (by rw [HX.out]; unfold maxLen; omega)).mono ?_
    rintro e w4 ⟨rfl, rfl⟩
    go_wp2_with fail
    refine (crc_0 y _ (by rw [HY.out]; unfold maxLen; omega)).mono ?_
    rintro e w4 ⟨rfl, rfl⟩
    go_wp2_with fail
    refine (crc_0 z _ (by rw [HZ.out]; unfold maxLen; omega)).mono ?_
    rintro e w4 ⟨rfl, rfl⟩
    generalize hcx : Cm.crc 0 x.data.toList = cx at *
    have HCX := Lib.hid hcx
    clear hcx
    generalize Cm.crc 0 y.data.toList = cy at *
    generalize Cm.crc 0 z.data.toList = cz at *
    have e1 := u32_xor_nat cx cy C1 C2
    have e2 := u32_xor_nat (cx ^^^ cy) cz (Nat.xor_lt_two_pow (n := 32) C1 C2) C3
    have hbel := (hb1.trans (hb2.mono hb1.size)).trans (hb3.mono (Nat.le_trans hb1.size hb2.size))
    go_wp2_with fail
    clear e1 e2
    go_loopw [9] (fun i wr => ∃ k : Nat, k ≤ n ∧ i = .int .i64 k ∧ Below w.heap.size w wr) (fun i _ => n - (intOf i).toNat)
    case atStart => exact ⟨0, by omega, rfl, hbel⟩
    case round =>
      clear hbel hb1 hb2 hb3
      obtain ⟨k, hk, rfl, hbel⟩ := hrel
      by_cases hlt : k < n ∧ k < 40
      · obtain ⟨hlt, h40⟩ := hlt
        have hcv := fun w => run_bytes_of_string (P := Try.prog) w 9 36 5 x Try.underlying9 Try.underlying36 Try.underlying5
        rw [HX.out] at hcv
        have hxk : k < x.data.toList.length := by rw [LX.out]; exact hlt
        have hc : ∀ cap, (wr.alloc (.cells (bytesRow x cap) 5 ((bytesRow x cap).size, (bytesRow x cap).size + 1))).cell? ⟨wr.heap.size, k, none⟩ = some (.int .u8 (x.data.toList[k].toNat : Int)) := fun cap => (BRow.made wr x cap).cell k hxk
        have hf : ∀ cap, (wr.alloc (.cells (bytesRow x cap) 5 ((bytesRow x cap).size, (bytesRow x cap).size + 1))).frozen? ⟨wr.heap.size, k, none⟩ = false := fun cap => (BRow.made wr x cap).2 k hxk
        have a1 : (0 : Int) ≤ (k : Int) := by omega
        have a2 : (k : Int) < (n : Int) := by omega
        have a3 : (k : Int).tmod 8 = ((k % 8 : Nat) : Int) := by rw [Int.tmod_eq_emod_of_nonneg (by omega)]; omega
        have a4 : (0 : Int) ≤ ((k % 8 : Nat) : Int) := by omega
        have a5 : ((k % 8 : Nat) : Int) < 8 := by omega
        go_wp2
        clear hcv
        generalize grownCap wr n 0 5 = cap at *
        go_region
        go_wp2_with fail
        all_goals
          have hrow := (BRow.made wr x cap).set k (x.data[k] ^^^ UInt8.ofNat (2 ^ (k % 8)))
          rw [← u8_xor, ← pow_byte] at hrow
          have hcv2 := hrow.drew.drew.conv (n := n) (by rw [List.length_set, LX.out]) cap
          rw [hcv2]
          simp only [Result.andThen]
          rw [Oper.upon_value]
          have hne := Cm.crc_one x.data.toList k (x.data[k] ^^^ UInt8.ofNat (2 ^ (k % 8))) hxk (Cm.xor_ne _ _ (pow_ne k))
          have hsz : (ByteArray.mk (x.data.toList.set k (x.data[k] ^^^ UInt8.ofNat (2 ^ (k % 8)))).toArray).size = n := by rw [← Cm.len_list]; simp [LX.out]
          have HSZ := Lib.hid hsz
          have HD : Hid ((ByteArray.mk (x.data.toList.set k (x.data[k] ^^^ UInt8.ofNat (2 ^ (k % 8)))).toArray).data.toList = x.data.toList.set k (x.data[k] ^^^ UInt8.ofNat (2 ^ (k % 8)))) := by show _ = _; simp
          generalize x.data.toList.set k (x.data[k] ^^^ UInt8.ofNat (2 ^ (k % 8))) = q at *
          generalize ByteArray.mk q.toArray = qs at *
          have hbel2 := ((hbel.alloc hbel.size (.cells (bytesRow x cap) 5 ((bytesRow x cap).size, (bytesRow x cap).size + 1))).setCell (p := ⟨wr.heap.size, k, none⟩) hbel.size (.int .u8 (bits .xor .u8 (x.data[k].toNat : Int) (2 ^ (k % 8) % 256)))).drew.drew
          generalize ((wr.alloc (.cells (bytesRow x cap) 5 ((bytesRow x cap).size, (bytesRow x cap).size + 1))).setCell ⟨wr.heap.size, k, none⟩ (.int .u8 (bits .xor .u8 (x.data[k].toNat : Int) (2 ^ (k % 8) % 256)))).drew.drew = wq at *
          clear hcv2 hrow hc hf hsz
          have HNE := Lib.hid hne
          clear hne
          go_wp2_with fail
          refine (crc_0 qs _ (by rw [HSZ.out]; unfold maxLen; omega)).mono ?_
          rintro e w4 ⟨rfl, rfl⟩
          rw [HD.out]
          go_wp2_with fail
          refine (crc_0 x _ (by rw [HX.out]; unfold maxLen; omega)).mono ?_
          rintro e w4 ⟨rfl, rfl⟩
          have hn2 := HNE.out
          generalize Cm.crc 0 q = cq at *
          generalize Cm.crc 0 x.data.toList = cx2 at *
          have d1 : ((cq : Int) == (cx2 : Int)) = false := by simp; omega
          clear hn2
          go_wp2_with fail
          go_roundw
          case rel => exact ⟨k + 1, by omega, by go_num, hbel2⟩
          case measure => simp [intOf]; omega
      · by_cases h1 : k < n
        · have h2 : ¬ ((k : Int) < 40) := by omega
          clear hlt
          go_wp2
          go_ret
          exact ⟨rfl, hbel⟩
        · clear hlt
          go_wp2
          go_ret
          exact ⟨rfl, hbel⟩
end Go.Proofs.Ythdabijojboehaa
