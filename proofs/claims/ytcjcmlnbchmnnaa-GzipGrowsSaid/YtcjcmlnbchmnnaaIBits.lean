/- (*inflate.Reader).bits: a number of bits: its contract. -/
import Derived.Test.YtcjcmlnbchmnnaaRd
import Derived.Test.YtcjcmlnbchmnnaaRead
import Derived.Test.YtcjcmlnbchmnnaaPl
import Derived.Deep.RegionWith
import Derived.RegionDies
import Derived.Deep.QuietTactic
import Derived.BigQuiet
namespace Go.Proofs.Ytcjcmlnbchmnnaa
open Go.RowKit

theorem bit_put (m k : Nat) (s : ByteArray) (bt : Nat) (h : bt / 8 < s.size) (hm : m < 2 ^ k) (hk : k ≤ 16) :
    bits BinOp.or IntKind.i64 (m : Int) (wrap64 (wrap64 (bits BinOp.and IntKind.u8 ((s[bt / 8].toNat : Int) / 2 ^ (bt % 8)) 1) * 2 ^ k)) = ((m + Hm.bitOf s.data.toList bt * 2 ^ k : Nat) : Int) := by
  have e0 : s.data.toList.getD (bt / 8) 0 = s[bt / 8] := by
    rw [List.getD_eq_getElem?_getD, List.getElem?_eq_getElem (by rw [Array.length_toList]; exact h)]; rfl
  unfold Hm.bitOf
  rw [e0]
  have hb := Cm.byte_lt s[bt / 8]
  have e1 : (s[bt / 8].toNat : Int) / 2 ^ (bt % 8) = ((s[bt / 8].toNat / 2 ^ (bt % 8) : Nat) : Int) := by simp
  have hd := Nat.div_le_self s[bt / 8].toNat (2 ^ (bt % 8))
  rw [e1]
  generalize s[bt / 8].toNat / 2 ^ (bt % 8) = y at *
  have e2 := u8_and_nat y 1 (by omega) (by omega)
  rw [nat_mask1] at e2
  have hp : 2 ^ k ≤ 65536 := Nat.pow_le_pow_right (n := 2) (j := 16) (by omega) hk
  have hy : y % 2 * 2 ^ k ≤ 65536 := by
    rcases (by omega : y % 2 = 0 ∨ y % 2 = 1) with e | e <;> rw [e] <;> omega
  have e3 : ((y % 2 : Nat) : Int) * 2 ^ k = ((y % 2 * 2 ^ k : Nat) : Int) := by simp
  rw [show (1 : Int) = ((1 : Nat) : Int) from rfl, e2, IntWalk.wrap64_in ((y % 2 : Nat) : Int) ⟨by omega, by omega⟩, e3, IntWalk.wrap64_in ((y % 2 * 2 ^ k : Nat) : Int) ⟨by omega, by omega⟩, bits_or_i64 _ _ (by omega) (by omega), Nat.or_comm]
  rw [nat_join k _ _ (by rw [Nat.mul_comm]; exact Nat.mul_mod_right _ _) hm, Nat.add_comm]

set_option maxRecDepth 100000 in
set_option maxHeartbeats 1000000 in
theorem bits_no (R : Nat) (r : Rd) (pos n : Nat) (w : World) (hR : RdAt w R r) (hp : r.bit = pos) (hn : n ≤ 16) (hpos : pos ≤ 9007199254740992) (hs : r.s.size ≤ 281474976710656) (h : 8 * r.s.size < pos + n) :
    Calls Try.prog 57 #[.pointer (some ⟨R, 0, none⟩), .int .i64 n] w fun e w' => e = stopped 0 ∧ Fr (· = R) w w' := by
  have c0 := hR.s
  have c1 := hR.bit
  rw [hp] at c1
  clear hp
  have a1 : IntKind.i64.wrap ((pos : Int) + (n : Int)) = (pos : Int) + (n : Int) := IntWalk.i64_in _ (by omega)
  have a2 : IntKind.i64.wrap (8 * (r.s.size : Int)) = 8 * (r.s.size : Int) := IntWalk.i64_in _ (by omega)
  have a3 : decide ((pos : Int) + (n : Int) ≤ 8 * (r.s.size : Int)) = false := by simp; omega
  go_enter Try.func57, Try.ntmps57
  go_wp2_with fail
  go_region_dies
  all_goals (go_wp2_with (go_at_call 71; refine (must_no _ _).mono ?_; rintro e w' ⟨he, rfl⟩; unfold stopped at he; subst he))
  all_goals exact ⟨rfl, rfl, (Fr.refl _ w).drew⟩

set_option maxRecDepth 100000 in
set_option maxHeartbeats 1000000 in
theorem bits_yes (R : Nat) (r : Rd) (pos n : Nat) (w : World) (hR : RdAt w R r) (hp : r.bit = pos) (hn : n ≤ 16) (hpos : pos ≤ 9007199254740992) (hs : r.s.size ≤ 281474976710656) (h : pos + n ≤ 8 * r.s.size) :
    Calls Try.prog 57 #[.pointer (some ⟨R, 0, none⟩), .int .i64 n] w fun e w' => e = .returned (.int .i64 (Im.num r.s.data.toList pos n : Nat)) ∧ RdAt w' R { r with bit := ((pos + n : Nat) : Int) } ∧ Fr (· = R) w w' := by
  have c0 := hR.s
  have c1 := hR.bit
  rw [hp] at c1
  have a1 : IntKind.i64.wrap ((pos : Int) + (n : Int)) = (pos : Int) + (n : Int) := IntWalk.i64_in _ (by omega)
  have a2 : IntKind.i64.wrap (8 * (r.s.size : Int)) = 8 * (r.s.size : Int) := IntWalk.i64_in _ (by omega)
  have a3 : decide ((pos : Int) + (n : Int) ≤ 8 * (r.s.size : Int)) = true := by simp; omega
  have hR0 : RdAt w R { r with bit := ((pos + 0 : Nat) : Int) } := by rw [Nat.add_zero, ← hp]; exact hR
  clear hp hR
  go_enter Try.func57, Try.ntmps57
  go_wp2_with fail
  go_quiet ((go_at_call 71; exact Calls.quiet_of_same (must_q _ _)))
  clear c0 c1 a1 a2 a3
  have hRq := hR0.drewN nq
  have hfq := (Fr.refl (· = R) w).drewN nq
  generalize w.drewN nq = wq at *
  clear hR0
  go_wp2
  go_loopw [5, 22] (fun x i wr => ∃ k : Nat, k ≤ n ∧ i = .int .i64 k ∧ x = .int .i64 (Im.num r.s.data.toList pos k : Nat) ∧ RdAt wr R { r with bit := ((pos + k : Nat) : Int) } ∧ Fr (· = R) w wr) (fun _ i _ => n - (intOf i).toNat)
  case atStart => exact ⟨0, by omega, rfl, rfl, hRq, hfq⟩
  case round =>
    clear hRq hfq
    obtain ⟨k, hk, rfl, rfl, hRk, hfk⟩ := hrel
    have HB := Lib.hid (Im.num_lt r.s.data.toList pos k)
    by_cases hkn : (k : Int) < n
    · have hb8 : (pos + k) / 8 < r.s.size := by omega
      have c0 := hRk.s
      have c1 := hRk.bit
      have f1 := hRk.frozen 1
      simp only at c1
      have q0 : decide ((k : Int) < (n : Int)) = true := by simp [hkn]
      generalize hb : pos + k = bt at *
      have r1 : IntKind.i64.wrap ((bt : Int) / 8) = (bt : Int) / 8 := IntWalk.i64_in _ (by omega)
      have r2 : (0 : Int) ≤ (bt : Int) / 8 := by omega
      have r3 : (bt : Int) / 8 < (r.s.size : Int) := by omega
      have r4 : ((bt : Int) / 8).toNat = bt / 8 := by omega
      have r5 : IntKind.i64.wrap ((bt : Int) % 8) = (bt : Int) % 8 := IntWalk.i64_in _ (by omega)
      have r6 : (0 : Int) ≤ (bt : Int) % 8 := by omega
      have r7 : ((bt : Int) % 8).toNat = bt % 8 := by omega
      have r9 : IntKind.i64.wrap ((bt : Int) + 1) = (bt : Int) + 1 := IntWalk.i64_in _ (by omega)
      go_wp2
      go_region
      have e0 : Im.num r.s.data.toList pos (k + 1) = Im.num r.s.data.toList pos k + Hm.bitOf r.s.data.toList bt * 2 ^ k := by rw [Im.num, hb]
      have HN := Lib.hid (bit_put _ k r.s bt hb8 HB.out (by omega))
      rw [HN.out, ← e0]
      have hR2 : RdAt (wr.drew.setCell ⟨R, 1, none⟩ (.int .i64 ((bt : Int) + 1))) R { r with bit := ((pos + (k + 1) : Nat) : Int) } := hRk.drew.set 1 _ (by simp [Rd.cells]; omega)
      have hf2 := hfk.drew.setCell (p := ⟨R, 1, none⟩) (Or.inl rfl) (.int .i64 ((bt : Int) + 1))
      clear HN e0 hRk
      generalize hN : Im.num r.s.data.toList pos (k + 1) = N at *
      have HN := Lib.hid hN
      clear hN
      go_wp2
      go_round
      case measure => simp [intOf]; omega
      case rel => exact ⟨k + 1, by omega, by go_num, by rw [HN.out], hR2, hf2⟩
    · have hkn' : k = n := by omega
      subst hkn'
      have q0 : decide ((k : Int) < (k : Int)) = false := by simp
      go_wp2
      go_ret
      exact ⟨rfl, hRk, hfk⟩
end Go.Proofs.Ytcjcmlnbchmnnaa
