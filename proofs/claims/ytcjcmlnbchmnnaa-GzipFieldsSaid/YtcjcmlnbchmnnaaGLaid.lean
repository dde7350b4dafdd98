/- farrierlaw10.laid: a member of one block of the kind 0: its contract. -/
import Derived.Test.YtcjcmlnbchmnnaaIApp
import Derived.Test.YtcjcmlnbchmnnaaRPut
import Derived.Test.YtcjcmlnbchmnnaaRCrc
import Derived.Deep.DeepCutAuto
import Derived.Deep.CutBlock
namespace Go.Proofs.Ytcjcmlnbchmnnaa
open Go.RowKit

theorem head_bytes2 (x : Bool) (n : Nat) (hn : n ≤ 65535) :
    #[Value.int .u8 (if x then 1 else 0), .int .u8 ((n : Int) % 256), .int .u8 ((n : Int) / 256), .int .u8 (255 - (n : Int) % 256), .int .u8 (255 - (n : Int) / 256)].toList
      = bvals [if x then 1 else 0, UInt8.ofNat n, UInt8.ofNat (n / 256), UInt8.ofNat (255 - n % 256), UInt8.ofNat (255 - n / 256)] := by
  simp only [bvals, List.map_cons, List.map_nil, UInt8.toNat_ofNat']
  cases x <;> simp <;> omega
/-- a member's head, with a name if it is not empty -/
def headL (nm : List UInt8) : List UInt8 := if nm = [] then [31, 139, 8, 0, 0, 0, 0, 0, 0, 0] else [31, 139, 8, 8, 0, 0, 0, 0, 0, 0] ++ (nm ++ [0])
/-- a member of one block of the kind 0 -/
def laidL (s nm : List UInt8) : List UInt8 := headL nm ++ Im.blk true s ++ Cm.putL (Cm.crc 0 s) 4 ++ Cm.putL s.length 4
theorem lit_made (w : World) (vs : Array Value) (l : List UInt8) (h : vs.toList = bvals l) (hl : l.length ≤ 1000) : Made w (w.alloc (.cells vs 5)) (.slice (some ⟨w.heap.size, 0, none⟩) l.length l.length) l := by
  refine ⟨?_, (Below.refl _ w).alloc (Nat.le_refl _) _⟩
  have hz : vs.size = l.length := by rw [← Array.length_toList, h, bvals_length]
  have := World.ownsRow_lit (e := 5) (size := 1) w vs l.length (Nat.le_refl _) (by unfold maxLen; omega) (by rw [hz, Nat.mul_one])
  unfold OutAt
  rw [← h]
  exact this
set_option maxRecDepth 100000 in
set_option maxHeartbeats 4000000 in
theorem laid_go (s nm : ByteArray) (w : World) (hs : s.size ≤ 60000) (hn : nm.size ≤ 1000) :
    Calls Try.prog 16 #[.string s, .string nm] w fun o w' => o = .returned (.string ⟨(laidL s.data.toList nm.data.toList).toArray⟩) ∧ Below w.heap.size w w' := by
  obtain ⟨bt, hbt⟩ : ∃ b, nm.toList.isEmpty = b := ⟨_, rfl⟩
  go_enter Try.func16, Try.ntmps16
  go_upto_if 15 with fail
  go_cut [5] (fun v wx => Made w wx v (headL nm.data.toList))
  case first =>
    by_cases h0 : nm.size = 0
    · obtain rfl : bt = true := by rw [← hbt]; exact isEmpty_zero nm h0
      have hn0 : nm.data.toList = [] := List.eq_nil_of_length_eq_zero (by rw [blen]; exact h0)
      have hM := Lib.hid (lit_made w #[.int .u8 31, .int .u8 139, .int .u8 8, .int .u8 0, .int .u8 0, .int .u8 0, .int .u8 0, .int .u8 0, .int .u8 0, .int .u8 0] [31, 139, 8, 0, 0, 0, 0, 0, 0, 0] rfl (by decide))
      have hh := Lib.hid (show headL nm.data.toList = [31, 139, 8, 0, 0, 0, 0, 0, 0, 0] by rw [hn0]; rfl)
      clear h0 hn0
      go_wp2_with fail
      go_meet
      rw [hh.out]
      exact hM.out
    · obtain rfl : bt = false := by rw [← hbt]; exact isEmpty_pos nm (by omega)
      have hM := Lib.hid (lit_made w #[.int .u8 31, .int .u8 139, .int .u8 8, .int .u8 8, .int .u8 0, .int .u8 0, .int .u8 0, .int .u8 0, .int .u8 0, .int .u8 0] [31, 139, 8, 8, 0, 0, 0, 0, 0, 0] rfl (by decide))
      have hne : nm.data.toList ≠ [] := fun q => h0 (by rw [← blen, q]; rfl)
      have hh := Lib.hid (show headL nm.data.toList = [31, 139, 8, 8, 0, 0, 0, 0, 0, 0] ++ (nm ++ ⟨#[0]⟩ : ByteArray).data.toList by rw [str_app]; exact if_neg hne)
      have hz := Lib.hid (show ([31, 139, 8, 8, 0, 0, 0, 0, 0, 0] : List UInt8).length + (nm ++ ⟨#[0]⟩ : ByteArray).size ≤ 140737488355328 by rw [str_size]; show 10 + (nm.size + 1) ≤ _; omega)
      clear h0 hne
      go_wp2_with (at_builtin; refine wpList_strM rfl _ _ rfl w _ [31, 139, 8, 8, 0, 0, 0, 0, 0, 0] rfl (nm ++ ⟨#[0]⟩) rfl ?ad ?ah ?aj; (case ad => exact hM.out); (case ah => exact hz.out); intro v3 w3 ho3; replace ho3 := Lib.hid ho3)
      go_meet
      rw [hh.out]
      exact ho3.out
  case rest =>
    have hH := Lib.hid hcut
    have hhl : (headL nm.data.toList).length ≤ 1011 := by
      unfold headL
      split
      · simp
      · rw [List.length_append, List.length_append, blen]; simp; omega
    clear hcut hbt hn
    generalize hhd : headL nm.data.toList = hd at *
    obtain ⟨wa, hwa⟩ : ∃ x : World, x = wc := ⟨wc, rfl⟩
    subst hwa
    go_upto_block 0 with fail
    go_cut [5] (fun v wx => Made w wx v (hd ++ Im.blk true s.data.toList))
    case first =>
      go_wp2_with fail
      go_loopw [5, 6] (fun v1 v2 wr => v2 = .string s ∧ Made w wr v1 hd) (fun _ _ _ => 0)
      case atStart => exact ⟨rfl, hH.out⟩
      case round =>
        clear hH
        obtain ⟨rfl, hown⟩ := hrel
        have HO := Lib.hid hown
        clear hown
        have hr6 : s.size ≤ 60000 := hs
        have m1 : (if (60000 : Int) < (s.size : Int) then (60000 : Int) else (s.size : Int)) = (s.size : Int) := by split <;> omega
        have m1' : (if 60000 < s.size then (60000 : Int) else (s.size : Int)) = (s.size : Int) := by split <;> omega
        have HH := Lib.hid (head_bytes2 true s.size (by omega))
        have hhd2 : (hd ++ [if true then 1 else 0, UInt8.ofNat s.size, UInt8.ofNat (s.size / 256), UInt8.ofNat (255 - s.size % 256), UInt8.ofNat (255 - s.size / 256)]) ++ s.data.toList = hd ++ Im.blk true s.data.toList := by
          rw [List.append_assoc]
          unfold Im.blk
          rw [blen]
          rfl
        have hhl2 : (hd ++ [if true then 1 else 0, UInt8.ofNat s.size, UInt8.ofNat (s.size / 256), UInt8.ofNat (255 - s.size % 256), UInt8.ofNat (255 - s.size / 256)]).length + s.size ≤ 140737488355328 := by rw [List.length_append]; simp only [List.length_cons, List.length_nil]; omega
        have HZ := Lib.hid hhl2
        have HN := Lib.hid hhd2
        clear hhd2 hhl2 hhd
        go_wp2_with (first | (at_builtin; refine wpList_litM rfl _ _ rfl w _ hd rfl _ 5 rfl ?bd ?be ?bf ?bg ?bh ?bj; (case bd => exact HO.out); (case bf => exact HH.out); (case bg => exact rfl); (case bh => omega); intro v2 w2 ho2; replace ho2 := Lib.hid ho2) | (at_builtin; refine wpList_strM rfl _ _ rfl w _ ?cl rfl s rfl ?cd ?ch ?cj; (case cd => exact ho2.out); (case ch => exact HZ.out); intro v3 w3 ho3; replace ho3 := Lib.hid ho3))
        go_meet
        rw [← HN.out]
        exact ho3.out
    case rest =>
      clear hH
      obtain ⟨wb, hwb⟩ : ∃ x : World, x = wc := ⟨wc, rfl⟩
      subst hwb
      have hbl : (hd ++ Im.blk true s.data.toList).length ≤ 61100 := by rw [List.length_append, Im.blk_length, blen]; omega
      have hHH := Lib.hid (show laidL s.data.toList nm.data.toList = hd ++ Im.blk true s.data.toList ++ Cm.putL (Cm.crc 0 s.data.toList) 4 ++ Cm.putL s.size 4 by unfold laidL; rw [hhd, blen])
      generalize hd ++ Im.blk true s.data.toList = bl at *
      have hcl := Cm.crc_lt 0 s.data.toList
      have HC := fun w => Lib.hid (rcrc_any 0 s w (by omega) (by unfold maxLen; omega))
      rw [show ((0 : Nat) : Int) = 0 from rfl] at HC
      generalize Cm.crc 0 s.data.toList = cr at *
      have HP1 := fun w => Lib.hid (rput_in cr 4 w (by omega) (by omega) (by omega))
      have HP2 := fun w => Lib.hid (rput_in s.size 4 w (by omega) (by omega) (by omega))
      rw [show ((4 : Nat) : Int) = 4 from rfl, putV_yes cr 4 (by show cr < 4294967296; omega)] at HP1
      rw [show ((4 : Nat) : Int) = 4 from rfl, putV_yes s.size 4 (by show s.size < 4294967296; omega)] at HP2
      have l1 := Cm.putL_length cr 4
      have l2 := Cm.putL_length s.size 4
      generalize Cm.putL cr 4 = t1 at *
      generalize Cm.putL s.size 4 = t2 at *
      have hcv := fun w' hb => Lib.hid (conv_own (hcut.below (w' := w') hb).out)
      have hmb := Lib.hid hcut.bel
      have z1 : (ByteArray.mk bl.toArray).size = bl.length := by simp [ByteArray.size]
      have z2 : (ByteArray.mk t1.toArray).size = 4 := by rw [← l1]; simp [ByteArray.size]
      have z3 : (ByteArray.mk t2.toArray).size = 4 := by rw [← l2]; simp [ByteArray.size]
      have hsz1 : (ByteArray.mk bl.toArray).size ≤ 61100 := by omega
      have HQ := Lib.hid (show ((⟨bl.toArray⟩ : ByteArray) ++ ⟨t1.toArray⟩ ++ ⟨t2.toArray⟩) = ⟨(laidL s.data.toList nm.data.toList).toArray⟩ by
        apply bytes_eq; rw [str_app, str_app, hHH.out])
      have ecr : IntKind.i64.wrap (cr : Int) = (cr : Int) := IntWalk.i64_in _ (by omega)
      clear hhd hhl l1 l2 hcut hbl z1 hHH
      generalize (⟨bl.toArray⟩ : ByteArray) = s1 at *
      generalize (⟨t1.toArray⟩ : ByteArray) = s2 at *
      generalize (⟨t2.toArray⟩ : ByteArray) = s3 at *
      go_wp2_with (first | (go_at_call 15; refine (HC _).out.mono ?_; rintro o w' ⟨rfl, rfl⟩) | (go_at_call 39; with_reducible refine (HP1 _).out.mono ?_; rintro o w1 ⟨rfl, hb1⟩; clear HP1) | (go_at_call 39; with_reducible refine (HP2 _).out.mono ?_; rintro o w2 ⟨rfl, hb2⟩; have hcv2 := (hcv _ (belThen hb1 hb2)).out))
      go_ret
      exact ⟨by rw [HQ.out]; rfl, belThen (belThen hmb.out hb1) hb2⟩
end Go.Proofs.Ytcjcmlnbchmnnaa
