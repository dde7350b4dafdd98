/- farrierlaw08.bits: a code's bits, in bytes: its contract. -/
import Derived.Test.YtlhoahnjedpgaaaBytes
import Derived.Test.YtlhoahnjedpgaaaHmBits
import Derived.Test.YtlhoahnjedpgaaaOwn
import Derived.Deep.OwnRows
import Derived.RegionTactic
import Derived.BigRegion
import Derived.WalkLawsBesides
import Derived.Outline
namespace Go.Proofs.Ytlhoahnjedpgaaa
open Go.RowKit

def bf (c L k i : Nat) : Value := .int .u8 (((if i = 0 then Hm.lo c L k else Hm.hi c L k).toNat : Nat) : Int)

theorem or_bit (x : UInt8) (c m r : Nat) (hx : x.toNat < 2 ^ r) (hr : r ≤ 7) (hc : c < 65536) :
    bits BinOp.or IntKind.u8 (x.toNat : Int) (wrap64 (bits BinOp.and IntKind.i64 ((c : Int) / 2 ^ m) 1 * 2 ^ r) % 256) = ((x.toNat + c / 2 ^ m % 2 * 2 ^ r : Nat) : Int) := by
  have e1 : (c : Int) / 2 ^ m = ((c / 2 ^ m : Nat) : Int) := by simp
  have hd := Nat.div_le_self c (2 ^ m)
  rw [e1]
  generalize c / 2 ^ m = y at *
  have e2 := bits_and_i64 y 1 (by omega) (by omega)
  rw [nat_mask1] at e2
  have h2 : 2 ^ r ≤ 128 := Nat.pow_le_pow_right (n := 2) (j := 7) (by omega) hr
  have h3 : y % 2 * 2 ^ r ≤ 128 := by
    rcases Nat.mod_two_eq_zero_or_one y with e | e <;> rw [e] <;> omega
  have e3 : ((y % 2 : Nat) : Int) * 2 ^ r = ((y % 2 * 2 ^ r : Nat) : Int) := by simp
  rw [show (1 : Int) = ((1 : Nat) : Int) from rfl, e2, e3, IntWalk.wrap64_in _ ⟨by omega, by omega⟩]
  have e4 : ((y % 2 * 2 ^ r : Nat) : Int) % 256 = ((y % 2 * 2 ^ r : Nat) : Int) := by omega
  rw [e4, u8_or_nat _ _ (Cm.byte_lt x) (by omega), Nat.or_comm, nat_join r _ _ (Nat.mul_mod_left _ _) hx, Nat.add_comm]

set_option maxRecDepth 100000 in
set_option maxHeartbeats 1000000 in
theorem bits_any (c L : Nat) (w : World) (hc : c < 32768) (h15 : L ≤ 15) :
    Calls Try.prog 15 #[.int .i64 c, .int .i64 L] w fun e w' => e = .returned (.string ⟨#[Hm.lo c L L, Hm.hi c L L]⟩) ∧ Below w.heap.size w w' := by
  have hmk : ∀ w : World, (Instr.makeSlice 39 (.int .i64 2) (.int .i64 2)).run Try.prog w = .ok (.slice (some ⟨w.heap.size, 0, none⟩) 2 2) (w.alloc (.cells #[.int .u8 0, .int .u8 0] 5)) := fun _ => by kernel_rfl
  go_enter Try.func15, Try.ntmps15
  go_wp2
  clear hmk
  have hr0 : (w.alloc (.cells #[.int .u8 0, .int .u8 0] 5)).rowIs w.heap.size 5 2 (bf c L 0) :=
    World.rowIs_alloc w _ _ _ (fun i hi => by
      have : i < 2 := hi
      rcases (by omega : i = 0 ∨ i = 1) with rfl | rfl
      · rfl
      · show some (Value.int .u8 0) = some (.int .u8 (((Hm.hi c L 0).toNat : Nat) : Int)); rw [Hm.hi, Hm.le]; rfl)
  have hb0 := (Below.refl w.heap.size w).alloc (Nat.le_refl _) (.cells #[.int .u8 0, .int .u8 0] 5)
  go_loopw [6] (fun i wr => ∃ k : Nat, k ≤ L ∧ i = .int .i64 k ∧ wr.rowIs w.heap.size 5 2 (bf c L k) ∧ Below w.heap.size w wr) (fun i _ => L - (intOf i).toNat)
  case atStart => exact ⟨0, by omega, rfl, hr0, hb0⟩
  case round =>
    clear hr0 hb0
    obtain ⟨k, hk, rfl, hrow, hbel⟩ := hrel
    by_cases hlt : k < L
    · have r1 : IntKind.i64.wrap ((k : Int) / 8) = (k : Int) / 8 := IntWalk.i64_in _ (by omega)
      have r5 : IntKind.i64.wrap ((k : Int) % 8) = (k : Int) % 8 := IntWalk.i64_in _ (by omega)
      have r6 : (0 : Int) ≤ (k : Int) % 8 := by omega
      have r7 : ((k : Int) % 8).toNat = k % 8 := by omega
      have s1 : IntKind.i64.wrap ((L : Int) - 1) = (L : Int) - 1 := IntWalk.i64_in _ (by omega)
      have s2 : IntKind.i64.wrap ((L : Int) - 1 - (k : Int)) = (L : Int) - 1 - (k : Int) := IntWalk.i64_in _ (by omega)
      have s3 : ¬ (L : Int) - 1 - (k : Int) < 0 := by omega
      have s3' : (0 : Int) ≤ (L : Int) - 1 - (k : Int) := by omega
      have s4 : ((L : Int) - 1 - (k : Int)).toNat = L - 1 - k := by omega
      by_cases h8 : k < 8
      · have q0 : (k : Int) / 8 = 0 := by omega
        have c0 : wr.cell? ⟨w.heap.size, 0, none⟩ = some (.int .u8 ((Hm.lo c L k).toNat : Int)) := hrow.cell (i := 0) (by omega)
        have f0 := hrow.frozen 0
        go_wp2
        go_region
        have hlow := Hm.lo_low c L k h8
        have e8 : k % 8 = k := by omega
        rw [e8, or_bit _ c _ k hlow.2.1 (by omega) (by omega), show Hm.tbit c L k = c / 2 ^ (L - 1 - k) % 2 from rfl] at *
        rw [← hlow.1]
        have HLO := Lib.hid hlow.2.2
        clear r1 r5 r7 s1 s2 s4 q0 e8 hlow c0
        go_wp2
        go_roundw
        case rel =>
          refine ⟨k + 1, by omega, by go_num, ?_, (hbel.setCell (Nat.le_refl _) _).drew⟩
          refine ((hrow.set 0 _).congr fun j _ => ?_).drew
          show (if j = 0 then _ else _) = _
          unfold bf
          by_cases hj : j = 0
          · rw [if_pos hj, if_pos hj]
          · rw [if_neg hj, if_neg hj, if_neg hj, HLO.out]
        case measure => simp [intOf]; omega
      · have q0 : (k : Int) / 8 = 1 := by omega
        have c0 : wr.cell? ⟨w.heap.size, 1, none⟩ = some (.int .u8 ((Hm.hi c L k).toNat : Int)) := hrow.cell (i := 1) (by omega)
        have f0 := hrow.frozen 1
        go_wp2
        go_region
        have hlow := Hm.hi_high c L k (by omega) (by omega)
        have e8 : k % 8 = k - 8 := by omega
        rw [e8, or_bit _ c _ (k - 8) hlow.2.1 (by omega) (by omega), show Hm.tbit c L k = c / 2 ^ (L - 1 - k) % 2 from rfl] at *
        rw [← hlow.1]
        have HLO := Lib.hid hlow.2.2
        clear r1 r5 r7 s1 s2 s4 q0 e8 hlow c0
        go_wp2
        go_roundw
        case rel =>
          refine ⟨k + 1, by omega, by go_num, ?_, (hbel.setCell (Nat.le_refl _) _).drew⟩
          refine ((hrow.set 1 _).congr fun j hj2 => ?_).drew
          show (if j = 1 then _ else _) = _
          unfold bf
          by_cases hj : j = 1
          · rw [if_pos hj, if_neg (by omega)]
          · rw [if_neg hj, if_pos (by omega), if_pos (by omega), HLO.out]
        case measure => simp [intOf]; omega
    · obtain rfl : k = L := by omega
      have hcv : (convert 39 9 (.slice (some ⟨w.heap.size, 0, none⟩) 2 2)).run Try.prog wr = .ok (.string ⟨#[Hm.lo c k k, Hm.hi c k k]⟩) wr := by
        refine conv_cells wr ⟨w.heap.size, 0, none⟩ 2 2 [Hm.lo c k k, Hm.hi c k k] rfl (fun j u hj => ?_)
        have e : ((⟨w.heap.size, 0, none⟩ : Addr).add j) = ⟨w.heap.size, j, none⟩ := by simp only [Addr.add]; split <;> simp_all
        rw [e]
        have hj2 : j < 2 := by have := (List.getElem?_eq_some_iff.1 hj).1; simpa [bvals] using this
        rw [hrow.cell hj2, ← hj]
        rcases (by omega : j = 0 ∨ j = 1) with rfl | rfl <;> rfl
      go_wp2
      go_ret
      exact ⟨rfl, hbel⟩
end Go.Proofs.Ytlhoahnjedpgaaa
