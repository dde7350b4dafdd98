/- codes.Unhex: the bytes of digits: its contract. -/
import Derived.Test.YthdabijojboehaaBytes
import Derived.Test.YthdabijojboehaaIdx
import Derived.WalkLawsBesides
import Derived.Deep.QuietTactic
import Derived.BigQuiet
import Derived.IntWalk
import Derived.WalkSmall
import Derived.Outline
namespace Go.Proofs.Ythdabijojboehaa
open Go.RowKit

def unhexV (l : List UInt8) : Value := match Cm.unhex l with
  | some t => .tuple #[.string ⟨t.toArray⟩, .int .i64 0]
  | none => .tuple #[.string ⟨#[]⟩, .int .i64 21]
theorem unhexV_some {l t : List UInt8} (h : Cm.unhex l = some t) : unhexV l = .tuple #[.string ⟨t.toArray⟩, .int .i64 0] := by unfold unhexV; rw [h]
theorem unhexV_none {l : List UInt8} (h : Cm.unhex l = none) : unhexV l = .tuple #[.string ⟨#[]⟩, .int .i64 21] := by unfold unhexV; rw [h]

def digs : List UInt8 := [48, 49, 50, 51, 52, 53, 54, 55, 56, 57, 97, 98, 99, 100, 101, 102]
def digV (c : Nat) : Int := match Cm.undig c with | some n => n | none => -1
theorem digV_some {c n : Nat} (h : Cm.undig c = some n) : digV c = n := by unfold digV; rw [h]
theorem digV_none {c : Nat} (h : Cm.undig c = none) : digV c = -1 := by unfold digV; rw [h]
theorem digs_idx (c : UInt8) : Lib.indexByte digs c = digV c.toNat := by
  have all : ∀ k : Fin 256, Lib.indexByte digs (UInt8.ofNat k.val) = digV k.val := by decide +kernel
  have := all ⟨c.toNat, Cm.byte_lt c⟩
  simpa using this
theorem dig_call (c : UInt8) (w : World) :
    Calls Try.prog 22 #[.string ⟨#[48, 49, 50, 51, 52, 53, 54, 55, 56, 57, 97, 98, 99, 100, 101, 102]⟩, .int .u8 c.toNat] w fun e w' => e = .returned (.int .i64 (digV c.toNat)) ∧ w' = w :=
  (idx_any _ _ w).mono fun e w' ⟨he, hw⟩ => ⟨by rw [he, ← digs_idx]; simp [digs], hw.symm⟩
theorem digV_bd (c : Nat) : -1 ≤ digV c ∧ digV c < 16 := by
  unfold digV; split
  · rename_i n h; have := Cm.undig_lt h; omega
  · omega

set_option maxHeartbeats 400000 in
theorem unhex_any (s : ByteArray) (w : World) (hs : s.size ≤ 281474976710656) :
    Calls Try.prog 15 #[.string s] w fun e w' => e = .returned (unhexV s.data.toList) ∧ Below w.heap.size w w' := by
  obtain ⟨i0, hi, hz0, hz1, hz2⟩ := info_parts info_u8
  rcases Nat.mod_two_eq_zero_or_one s.size with hpar | hpar
  · have hev : ((s.size : Int) % 2 != 0) = false := by simp; omega
    go_enter Try.func15, Try.ntmps15
    go_wp2_with (at_make; refine wpList_make_own _ rfl _ _ 36 rfl w.heap.size 5 i0 (.int .u8 0) 1 Try.underlying36 hi hz0 hz1 _ _ _ (s.size / 2) rfl rfl (by omega) ?b2 ?b3 (Nat.le_refl _) ?_)
    case b2 => rw [hz2]; omega
    case b3 => unfold maxLen; omega
    intro w0 hown0 hgrow0
    go_wp2
    go_loopw [4, 5] (fun v i wr => ∃ j : Nat, ∃ k : Nat, ∃ acc : List UInt8, j = 2 * k ∧ j ≤ s.size ∧ i = .int .i64 (j : Int) ∧ v = .slice (some ⟨w.heap.size, 0, none⟩) k (s.size / 2) ∧ Cm.unhex s.data.toList = (Cm.unhex (s.data.toList.drop j)).map (acc ++ ·) ∧ wr.ownsRow w.heap.size 5 1 (.slice (some ⟨w.heap.size, 0, none⟩) k (s.size / 2)) k (bvals acc) ∧ Below w.heap.size w wr) (fun _ i _ => s.size - (intOf i).toNat)
    case atStart => exact ⟨0, 0, [], rfl, by omega, rfl, rfl, by simp, hown0, (Below.refl _ _).grown hgrow0 (Nat.le_refl _) (fun k h => by cases h)⟩
    case round =>
      obtain ⟨j, k, acc, hjk, hk, rfl, rfl, hun, hown, hbel⟩ := hrel
      have HU := Lib.hid hun
      have HJ := Lib.hid hjk
      by_cases hlt : j < s.size
      · have hlt2 : j + 1 < s.size := by omega
        have hk2 : k < s.size / 2 := by omega
        have HD : Hid (s.data.toList.drop j = s[j] :: s[j + 1] :: s.data.toList.drop (j + 2)) := by
          show _ = _
          rw [Cm.drop_cons s j hlt, Cm.drop_cons s (j + 1) hlt2]
        clear hun hjk
        have a1 : (0 : Int) ≤ (j : Int) := by omega
        have a2 : (j : Int) < (s.size : Int) := by omega
        have a3 : (0 : Int) ≤ (j : Int) + 1 := by omega
        have a4 : (j : Int) + 1 < (s.size : Int) := by omega
        have a5 : IntKind.i64.wrap ((j : Int) + 1) = (j : Int) + 1 := IntWalk.i64_in _ (by omega)
        have a6 : ((j : Int) + 1).toNat = j + 1 := by omega
        cases hx : Cm.undig s[j].toNat with
        | none =>
          have HV : Hid (unhexV s.data.toList = _) := unhexV_none (by rw [HU.out, HD.out, Cm.unhex_none _ _ _ (.inl hx)]; rfl)
          have b2 := digV_bd s[j + 1].toNat
          have d1 := digV_none hx
          clear hx
          go_wp2
          go_quiet ((go_at_call 22; exact Calls.quiet_of_same (dig_call _ _)))
          clear a5
          go_wp2
          go_ret2
          exact ⟨by rw [HV.out]; rfl, below_drewN hbel _⟩
        | some x =>
          have hx16 := Cm.undig_lt hx
          have d1 := digV_some hx
          cases hy : Cm.undig s[j + 1].toNat with
          | none =>
            have HV : Hid (unhexV s.data.toList = _) := unhexV_none (by rw [HU.out, HD.out, Cm.unhex_none _ _ _ (.inr hy)]; rfl)
            have d2 := digV_none hy
            clear hx hy
            go_wp2
            go_quiet ((go_at_call 22; exact Calls.quiet_of_same (dig_call _ _)))
            clear a5
            go_wp2
            go_ret2
            exact ⟨by rw [HV.out]; rfl, below_drewN hbel _⟩
          | some y =>
            have hy16 := Cm.undig_lt hy
            have d2 := digV_some hy
            have HU2 : Hid (Cm.unhex s.data.toList = (Cm.unhex (s.data.toList.drop (j + 2))).map ((acc ++ [UInt8.ofNat (16 * x + y)]) ++ ·)) := by
              show _ = _
              rw [HU.out, HD.out, Cm.unhex_cons _ _ _ hx hy, Option.map_map]
              congr 1; funext t; simp
            have HC : Hid (16 * (x : Int) + (y : Int) = ((UInt8.ofNat (16 * x + y)).toNat : Int)) := by
              show _ = _
              rw [← mod_byte]; simp; omega
            generalize UInt8.ofNat (16 * x + y) = c at *
            clear hx hy
            go_wp2
            go_quiet ((go_at_call 22; exact Calls.quiet_of_same (dig_call _ _)))
            clear a5
            have hown2 : (wr.drewN nq).ownsRow w.heap.size 5 1 (.slice (some ⟨w.heap.size, 0, none⟩) k (s.size / 2)) k (bvals acc) := hown
            have hbel2 := below_drewN hbel nq
            generalize wr.drewN nq = wq at *
            go_wp2_with (at_builtin; refine wpList_append_fits _ rfl _ _ 36 rfl w.heap.size 5 i0 1 Try.underlying36 hi hz1 w.heap.size k (s.size / 2) _ rfl (hown2.alloc _) ⟨wq.heap.size, 0, none⟩ 1 1 (bvals [c]) rfl rfl ?c1 (bvals_one' _) hk2 ?_)
            case c1 => exact new_bytes _ _ _ _ (by rw [bvals_one, HC.out])
            intro w1 hown1 hgrow1
            go_wp2
            go_roundw
            case rel =>
              refine ⟨j + 2, k + 1, acc ++ [c], by have := HJ.out; omega, by omega, by go_num, rfl, HU2.out, ?_, (hbel2.alloc hbel2.size _).grown hgrow1 (by have := hbel2.size; simp; omega) (fun g hg => by cases hg; exact Nat.le_refl _)⟩
              rw [bvals_append]; exact hown1
            case measure => simp [intOf]; omega
      · have HV : Hid (unhexV s.data.toList = _) := unhexV_some (t := acc) (by rw [HU.out, Cm.drop_all s j (by omega)]; simp [Cm.unhex])
        have hcv := conv_own hown
        clear hun
        go_wp2
        go_ret2
        exact ⟨by rw [HV.out]; rfl, hbel⟩
  · have hod : ((s.size : Int) % 2 != 0) = true := by simp; omega
    have HV : Hid (unhexV s.data.toList = _) := unhexV_none (Cm.unhex_odd _ (by rw [Cm.len_list]; exact hpar))
    go_enter Try.func15, Try.ntmps15
    go_wp2
    go_ret2
    exact ⟨by rw [HV.out]; rfl, Below.refl _ _⟩
end Go.Proofs.Ythdabijojboehaa
