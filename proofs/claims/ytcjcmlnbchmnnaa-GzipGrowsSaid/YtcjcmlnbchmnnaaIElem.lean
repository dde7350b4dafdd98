/- (*inflate.Reader).element: its walks. -/
import Derived.Test.YtcjcmlnbchmnnaaISt
namespace Go.Proofs.Ytcjcmlnbchmnnaa
open Go.RowKit

set_option maxRecDepth 100000 in
set_option maxHeartbeats 1000000 in
theorem element_sym (R T : Nat) (r : Rd) (w : World) (e : Int) (hR : RdAt w R r) (hl : r.lit = .pointer (some ⟨T, 0, none⟩))
    (HS : Hid (Calls Try.prog 75 #[.pointer (some ⟨R, 0, none⟩), .pointer (some ⟨T, 0, none⟩)] w (Moves R r w (.error e)))) :
    Calls Try.prog 59 #[.pointer (some ⟨R, 0, none⟩)] w fun o w' => o = stopped e ∧ Fr (· = R) w w' := by
  have c5 := hR.lit
  rw [hl] at c5
  clear hR
  go_enter Try.func59, Try.ntmps59
  go_wp2_with (go_at_call 75; refine HS.out.mono ?_; rintro o w' ⟨he, hf⟩; unfold stopped at he; subst he)
  exact ⟨rfl, rfl, hf⟩

set_option maxRecDepth 100000 in
set_option maxHeartbeats 1000000 in
theorem element_lit_yes (R T x p : Nat) (r : Rd) (w : World) (Q : World → Prop) (hR : RdAt w R r) (hl : r.lit = .pointer (some ⟨T, 0, none⟩)) (hx : x < 256)
    (HS : Hid (Calls Try.prog 75 #[.pointer (some ⟨R, 0, none⟩), .pointer (some ⟨T, 0, none⟩)] w (Moves R r w (.ok (x, p)))))
    (HT : ∀ w1, RdAt w1 R { r with bit := (p : Int) } → Fr (· = R) w w1 → Calls Try.prog 58 #[.pointer (some ⟨R, 0, none⟩), .int .u8 (x : Int)] w1 fun o w' => o = .returned (.tuple #[]) ∧ Q w') :
    Calls Try.prog 59 #[.pointer (some ⟨R, 0, none⟩)] w fun o w' => o = .returned (.tuple #[]) ∧ Q w' := by
  have c5 := hR.lit
  rw [hl] at c5
  have q1 : decide ((x : Int) < 256) = true := by simp; omega
  have q2 : decide (x < 256) = true := by simp; omega
  clear hR
  go_enter Try.func59, Try.ntmps59
  go_wp2_with (first | (go_at_call 75; refine HS.out.mono ?_; rintro o w' ⟨rfl, hR1, hf⟩) | (go_at_call 58; refine (HT _ hR1 hf).mono ?_; rintro o w2 ⟨he, hq⟩; subst he))
  refine bodyPost_ret (results_none rfl _ _ _) rfl ?_
  exact ⟨rfl, hq⟩

set_option maxRecDepth 100000 in
set_option maxHeartbeats 1000000 in
theorem element_lit_no (R T x p : Nat) (r : Rd) (w : World) (Q : World → Prop) (e : Int) (hR : RdAt w R r) (hl : r.lit = .pointer (some ⟨T, 0, none⟩)) (hx : x < 256)
    (HS : Hid (Calls Try.prog 75 #[.pointer (some ⟨R, 0, none⟩), .pointer (some ⟨T, 0, none⟩)] w (Moves R r w (.ok (x, p)))))
    (HT : ∀ w1, RdAt w1 R { r with bit := (p : Int) } → Fr (· = R) w w1 → Calls Try.prog 58 #[.pointer (some ⟨R, 0, none⟩), .int .u8 (x : Int)] w1 fun o w' => o = stopped e ∧ Q w') :
    Calls Try.prog 59 #[.pointer (some ⟨R, 0, none⟩)] w fun o w' => o = stopped e ∧ Q w' := by
  have c5 := hR.lit
  rw [hl] at c5
  have q1 : decide ((x : Int) < 256) = true := by simp; omega
  have q2 : decide (x < 256) = true := by simp; omega
  clear hR
  go_enter Try.func59, Try.ntmps59
  go_wp2_with (first | (go_at_call 75; refine HS.out.mono ?_; rintro o w' ⟨rfl, hR1, hf⟩) | (go_at_call 58; refine (HT _ hR1 hf).mono ?_; rintro o w2 ⟨he, hq⟩; unfold stopped at he; subst he))
  exact ⟨rfl, rfl, hq⟩

set_option maxRecDepth 100000 in
set_option maxHeartbeats 1000000 in
theorem element_end (R T p : Nat) (r r' : Rd) (w : World) (hR : RdAt w R r) (hl : r.lit = .pointer (some ⟨T, 0, none⟩))
    (HS : Hid (Calls Try.prog 75 #[.pointer (some ⟨R, 0, none⟩), .pointer (some ⟨T, 0, none⟩)] w (Moves R r w (.ok (256, p)))))
    (HT : ∀ w1, RdAt w1 R { r with bit := (p : Int) } → Calls Try.prog 56 #[.pointer (some ⟨R, 0, none⟩)] w1 fun o w' => o = .returned (.tuple #[]) ∧ RdAt w' R r' ∧ Fr (· = R) w1 w') :
    Calls Try.prog 59 #[.pointer (some ⟨R, 0, none⟩)] w fun o w' => o = .returned (.tuple #[]) ∧ RdAt w' R r' ∧ Fr (· = R) w w' := by
  have c5 := hR.lit
  rw [hl] at c5
  clear hR
  go_enter Try.func59, Try.ntmps59
  go_wp2_with (first | (go_at_call 75; refine HS.out.mono ?_; rintro o w' ⟨rfl, hR1, hf⟩) | (go_at_call 56; refine (HT _ hR1).mono ?_; rintro o w2 ⟨rfl, hR2, hf2⟩))
  refine bodyPost_ret (results_none rfl _ _ _) rfl ?_
  exact ⟨rfl, hR2, hf.trans hf2⟩
end Go.Proofs.Ytcjcmlnbchmnnaa
