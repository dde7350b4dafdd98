/- (*inflate.Reader).tell: its contract. -/
import Derived.Test.YtcjcmlnbchmnnaaIBits
import Derived.Test.YtcjcmlnbchmnnaaRd
import Derived.Test.YtcjcmlnbchmnnaaFr
namespace Go.Proofs.Ytcjcmlnbchmnnaa
open Go.RowKit

set_option maxRecDepth 100000 in
set_option maxHeartbeats 1000000 in
theorem tell_no (R B : Nat) (r : Rd) (told most : Nat) (l : List UInt8) (c : UInt8) (w : World) (hR : RdAt w R r) (ho : OutAt w B r.out l) (ht : r.told = told) (hm : r.most = most) (hmm : most ≤ 281474976710656) (hl : l.length ≤ 281474976710656) (htm : told ≤ 281474976710656) (h : most ≤ told + l.length) :
    Calls Try.prog 58 #[.pointer (some ⟨R, 0, none⟩), .int .u8 (c.toNat : Int)] w fun o w' => o = stopped 93 ∧ Fr (· = R) w w' := by
  obtain ⟨a0, cap, e, _⟩ := ho.slice
  have c0 := hR.told
  have c1 := hR.out
  have c2 := hR.most
  rw [ht] at c0
  rw [e] at c1
  rw [hm] at c2
  have a1 : IntKind.i64.wrap ((told : Int) + (l.length : Int)) = (told : Int) + (l.length : Int) := IntWalk.i64_in _ (by omega)
  have a3 : decide ((told : Int) + (l.length : Int) < (most : Int)) = false := by simp; omega
  clear ht hm e ho hR
  go_enter Try.func58, Try.ntmps58
  go_wp2_with fail
  go_region_dies
  all_goals (go_wp2_with (go_at_call 71; refine (must_no _ _).mono ?_; rintro e w' ⟨he, rfl⟩; unfold stopped at he; subst he))
  all_goals exact ⟨rfl, rfl, (Fr.refl _ w).drew⟩

set_option maxRecDepth 100000 in
set_option maxHeartbeats 1000000 in
theorem tell_yes (R B : Nat) (r : Rd) (told most : Nat) (l : List UInt8) (c : UInt8) (w : World) (hR : RdAt w R r) (ho : OutAt w B r.out l) (ht : r.told = told) (hm : r.most = most) (hB : B ≤ w.heap.size) (hmm : most ≤ 140737488355328) (hl : l.length ≤ 281474976710656) (htm : told ≤ 281474976710656) (h : told + l.length < most) :
    Calls Try.prog 58 #[.pointer (some ⟨R, 0, none⟩), .int .u8 (c.toNat : Int)] w fun o w' => o = .returned (.tuple #[]) ∧ (∃ v, RdAt w' R { r with out := v } ∧ OutAt w' B v (l ++ [c])) ∧ Grew R B w w' := by
  obtain ⟨i0, hi, hz0, hz1, hz2⟩ := info_parts info_u8
  obtain ⟨a0, cap, e, _⟩ := ho.slice
  have c0 := hR.told
  have c1 := hR.out
  have c2 := hR.most
  rw [ht] at c0
  rw [hm] at c2
  have a1 : IntKind.i64.wrap ((told : Int) + (l.length : Int)) = (told : Int) + (l.length : Int) := IntWalk.i64_in _ (by omega)
  have a3 : decide ((told : Int) + (l.length : Int) < (most : Int)) = true := by simp; omega
  clear ht hm
  rw [e] at c1 ho
  go_enter Try.func58, Try.ntmps58
  go_wp2_with fail
  go_quiet ((go_at_call 71; exact Calls.quiet_of_same (must_q _ _)))
  clear c0 c1 c2 a1 a3
  have hRq := hR.drewN nq
  have hoq := ho.below (below_drewN (Below.refl w.heap.size w) nq)
  have hgq : Grew R B w (w.drewN nq) := (Grew.refl R B w).then_fr ((Fr.refl (· = R) w).drewN nq)
  have hBq : B ≤ (w.drewN nq).heap.size := Nat.le_trans hB (below_drewN (Below.refl w.heap.size w) nq).size
  generalize w.drewN nq = wq at *
  clear hR ho
  have c1 := hRq.out
  rw [e] at c1
  have f8 := hRq.frozen 8
  have HOA : Hid (OutAt (wq.alloc (.cells #[.int .u8 (c.toNat : Int)] 5)) B (.slice a0 l.length cap) l) := World.ownsRow.alloc hoq _
  go_wp2_with (at_builtin; refine wpList_append_own _ rfl _ _ 23 rfl B 5 i0 (.int .u8 0) 1 1 Try.underlying23 hi hz0 hz1 hz2 rfl (by decide) (.slice a0 l.length cap) l.length (bvals l) rfl HOA.out ⟨wq.heap.size, 0, none⟩ 1 1 (bvals [c]) rfl rfl ?c1 ?c2 ?c3 ?c4 ?c5 ?_)
  case c1 => exact new_bytes _ _ _ _ rfl
  case c2 => exact bvals_one' _
  case c3 => unfold maxLen; omega
  case c4 => omega
  case c5 => simp; omega
  intro v' w1 hown' hgrow _
  have hA := HOA.out
  have hR1 := (hRq.alloc _).grown hA hgrow
  have hg1 := (hgq.then_fr ((Fr.refl (· = R) wq).alloc _)).grown hA hgrow
  have ho1 : OutAt w1 B v' (l ++ [c]) := by
    unfold OutAt; rw [bvals_append, List.length_append]; exact hown'
  clear hown' hgrow hA HOA hoq hRq hgq
  obtain ⟨a1, cap1, ev, _⟩ := ho1.slice
  generalize (l ++ [c]).length = n1 at ev
  subst ev
  have c1' := hR1.out
  have f8' := hR1.frozen 8
  have hR2 : RdAt (w1.setCell ⟨R, 8, none⟩ _) R { r with out := .slice a1 n1 cap1 } := hR1.set 8 _ rfl
  have hf2 := (Fr.refl (· = R) w1).setCell (p := ⟨R, 8, none⟩) (Or.inl rfl) (.slice a1 n1 cap1)
  have ho2 := ho1.fr hR1 hf2
  have hg2 := hg1.then_fr hf2
  clear ho1 hg1 hf2 hR1
  go_wp2
  go_end0
  exact ⟨rfl, ⟨_, hR2, ho2⟩, hg2⟩
end Go.Proofs.Ytcjcmlnbchmnnaa
