/- (*inflate.Reader).element: its walks, where it copies. -/
import Derived.Test.YtcjcmlnbchmnnaaIElem
namespace Go.Proofs.Ytcjcmlnbchmnnaa
open Go.RowKit

set_option maxRecDepth 100000 in
set_option maxHeartbeats 1000000 in
theorem element_len_no (R T x p1 : Nat) (e : Int) (r : Rd) (w : World) (hR : RdAt w R r) (hl : r.lit = .pointer (some ⟨T, 0, none⟩)) (hx : 256 < x)
    (HS : Hid (Calls Try.prog 75 #[.pointer (some ⟨R, 0, none⟩), .pointer (some ⟨T, 0, none⟩)] w (Moves R r w (.ok (x, p1)))))
    (HL : ∀ w1, RdAt w1 R { r with bit := (p1 : Int) } → Calls Try.prog 76 #[.pointer (some ⟨R, 0, none⟩), .int .i64 (x : Int)] w1 (Moves R { r with bit := (p1 : Int) } w1 (.error e))) :
    Calls Try.prog 59 #[.pointer (some ⟨R, 0, none⟩)] w fun o w' => o = stopped e ∧ Fr (· = R) w w' := by
  have c5 := hR.lit
  rw [hl] at c5
  have q1 : decide ((x : Int) < 256) = false := by simp; omega
  have q2 : ((x : Int) == 256) = false := by simp; omega
  have q3 : decide (x < 256) = false := by simp; omega
  clear hR hx
  go_enter Try.func59, Try.ntmps59
  go_wp2_with (first | (go_at_call 75; refine HS.out.mono ?_; rintro o w1 ⟨rfl, hR1, hf1⟩; clear HS) | (go_at_call 76; refine (HL _ hR1).mono ?_; rintro o w2 ⟨he, hf2⟩; replace hf2 := hf1.trans hf2; unfold stopped at he; subst he))
  exact ⟨rfl, rfl, hf2⟩

set_option maxRecDepth 100000 in
set_option maxHeartbeats 1000000 in
theorem element_dsym_no (R T D x p1 n p2 : Nat) (e : Int) (r : Rd) (w : World) (hR : RdAt w R r) (hl : r.lit = .pointer (some ⟨T, 0, none⟩)) (hx : 256 < x) (hd : r.dist = .pointer (some ⟨D, 0, none⟩))
    (HS : Hid (Calls Try.prog 75 #[.pointer (some ⟨R, 0, none⟩), .pointer (some ⟨T, 0, none⟩)] w (Moves R r w (.ok (x, p1)))))
    (HL : ∀ w1, RdAt w1 R { r with bit := (p1 : Int) } → Calls Try.prog 76 #[.pointer (some ⟨R, 0, none⟩), .int .i64 (x : Int)] w1 (Moves R { r with bit := (p1 : Int) } w1 (.ok (n, p2))))
    (HS2 : ∀ w1, RdAt w1 R { r with bit := (p2 : Int) } → Fr (· = R) w w1 → Calls Try.prog 75 #[.pointer (some ⟨R, 0, none⟩), .pointer (some ⟨D, 0, none⟩)] w1 (Moves R { r with bit := (p2 : Int) } w1 (.error e))) :
    Calls Try.prog 59 #[.pointer (some ⟨R, 0, none⟩)] w fun o w' => o = stopped e ∧ Fr (· = R) w w' := by
  have c5 := hR.lit
  rw [hl] at c5
  have q1 : decide ((x : Int) < 256) = false := by simp; omega
  have q2 : ((x : Int) == 256) = false := by simp; omega
  have q3 : decide (x < 256) = false := by simp; omega
  clear hR hx
  go_enter Try.func59, Try.ntmps59
  go_wp2_with (first | (go_at_call 75; refine HS.out.mono ?_; rintro o w1 ⟨rfl, hR1, hf1⟩; clear HS) | (go_at_call 76; refine (HL _ hR1).mono ?_; rintro o w2 ⟨rfl, hR2, hf2⟩; replace hf2 := hf1.trans hf2; clear HL; have c6 : w2.cell? ⟨R, 6, none⟩ = some (.pointer (some ⟨D, 0, none⟩)) := hR2.dist.trans (congrArg some hd)))
  go_wp2_with (go_at_call 75; refine (HS2 _ hR2 hf2).mono ?_; rintro o w3 ⟨he, hf3⟩; replace hf3 := hf2.trans hf3; unfold stopped at he; subst he)
  exact ⟨rfl, rfl, hf3⟩

set_option maxRecDepth 100000 in
set_option maxHeartbeats 1000000 in
theorem element_dst_no (R T D x p1 n p2 y p3 : Nat) (e : Int) (r : Rd) (w : World) (hR : RdAt w R r) (hl : r.lit = .pointer (some ⟨T, 0, none⟩)) (hx : 256 < x) (hd : r.dist = .pointer (some ⟨D, 0, none⟩))
    (HS : Hid (Calls Try.prog 75 #[.pointer (some ⟨R, 0, none⟩), .pointer (some ⟨T, 0, none⟩)] w (Moves R r w (.ok (x, p1)))))
    (HL : ∀ w1, RdAt w1 R { r with bit := (p1 : Int) } → Calls Try.prog 76 #[.pointer (some ⟨R, 0, none⟩), .int .i64 (x : Int)] w1 (Moves R { r with bit := (p1 : Int) } w1 (.ok (n, p2))))
    (HS2 : ∀ w1, RdAt w1 R { r with bit := (p2 : Int) } → Fr (· = R) w w1 → Calls Try.prog 75 #[.pointer (some ⟨R, 0, none⟩), .pointer (some ⟨D, 0, none⟩)] w1 (Moves R { r with bit := (p2 : Int) } w1 (.ok (y, p3))))
    (HD : ∀ w1, RdAt w1 R { r with bit := (p3 : Int) } → Calls Try.prog 77 #[.pointer (some ⟨R, 0, none⟩), .int .i64 (y : Int)] w1 (Moves R { r with bit := (p3 : Int) } w1 (.error e))) :
    Calls Try.prog 59 #[.pointer (some ⟨R, 0, none⟩)] w fun o w' => o = stopped e ∧ Fr (· = R) w w' := by
  have c5 := hR.lit
  rw [hl] at c5
  have q1 : decide ((x : Int) < 256) = false := by simp; omega
  have q2 : ((x : Int) == 256) = false := by simp; omega
  have q3 : decide (x < 256) = false := by simp; omega
  clear hR hx
  go_enter Try.func59, Try.ntmps59
  go_wp2_with (first | (go_at_call 75; refine HS.out.mono ?_; rintro o w1 ⟨rfl, hR1, hf1⟩; clear HS) | (go_at_call 76; refine (HL _ hR1).mono ?_; rintro o w2 ⟨rfl, hR2, hf2⟩; replace hf2 := hf1.trans hf2; clear HL; have c6 : w2.cell? ⟨R, 6, none⟩ = some (.pointer (some ⟨D, 0, none⟩)) := hR2.dist.trans (congrArg some hd)))
  go_wp2_with (first | (go_at_call 75; refine (HS2 _ hR2 hf2).mono ?_; rintro o w3 ⟨rfl, hR3, hf3⟩; replace hf3 := hf2.trans hf3; clear HS2) | (go_at_call 77; refine (HD _ hR3).mono ?_; rintro o w4 ⟨he, hf4⟩; replace hf4 := hf3.trans hf4; unfold stopped at he; subst he))
  exact ⟨rfl, rfl, hf4⟩

set_option maxRecDepth 100000 in
set_option maxHeartbeats 1000000 in
theorem element_far (R T D x p1 n p2 y p3 d p4 : Nat) (r : Rd) (w : World) (hR : RdAt w R r) (hl : r.lit = .pointer (some ⟨T, 0, none⟩)) (hx : 256 < x) (hd : r.dist = .pointer (some ⟨D, 0, none⟩)) (B told most : Nat) (o : List UInt8) (ho : OutAt w B r.out o) (ht : r.told = told) (hm : r.most = most) (hmm : most ≤ 281474976710656) (htm : told + o.length ≤ most) (hfar : told + o.length < d)
    (HS : Hid (Calls Try.prog 75 #[.pointer (some ⟨R, 0, none⟩), .pointer (some ⟨T, 0, none⟩)] w (Moves R r w (.ok (x, p1)))))
    (HL : ∀ w1, RdAt w1 R { r with bit := (p1 : Int) } → Calls Try.prog 76 #[.pointer (some ⟨R, 0, none⟩), .int .i64 (x : Int)] w1 (Moves R { r with bit := (p1 : Int) } w1 (.ok (n, p2))))
    (HS2 : ∀ w1, RdAt w1 R { r with bit := (p2 : Int) } → Fr (· = R) w w1 → Calls Try.prog 75 #[.pointer (some ⟨R, 0, none⟩), .pointer (some ⟨D, 0, none⟩)] w1 (Moves R { r with bit := (p2 : Int) } w1 (.ok (y, p3))))
    (HD : ∀ w1, RdAt w1 R { r with bit := (p3 : Int) } → Calls Try.prog 77 #[.pointer (some ⟨R, 0, none⟩), .int .i64 (y : Int)] w1 (Moves R { r with bit := (p3 : Int) } w1 (.ok (d, p4)))) :
    Calls Try.prog 59 #[.pointer (some ⟨R, 0, none⟩)] w fun o w' => o = stopped 92 ∧ Fr (· = R) w w' := by
  obtain ⟨a0, cap, eo, _⟩ := ho.slice
  have a1 : IntKind.i64.wrap ((told : Int) + (o.length : Int)) = (told : Int) + (o.length : Int) := IntWalk.i64_in _ (by omega)
  have a3 : decide ((d : Int) ≤ (told : Int) + (o.length : Int)) = false := by simp; omega
  have c5 := hR.lit
  rw [hl] at c5
  have q1 : decide ((x : Int) < 256) = false := by simp; omega
  have q2 : ((x : Int) == 256) = false := by simp; omega
  have q3 : decide (x < 256) = false := by simp; omega
  clear hR hx
  go_enter Try.func59, Try.ntmps59
  go_wp2_with (first | (go_at_call 75; refine HS.out.mono ?_; rintro o w1 ⟨rfl, hR1, hf1⟩; clear HS) | (go_at_call 76; refine (HL _ hR1).mono ?_; rintro o w2 ⟨rfl, hR2, hf2⟩; replace hf2 := hf1.trans hf2; clear HL; have c6 : w2.cell? ⟨R, 6, none⟩ = some (.pointer (some ⟨D, 0, none⟩)) := hR2.dist.trans (congrArg some hd)))
  go_wp2_with (first | (go_at_call 75; refine (HS2 _ hR2 hf2).mono ?_; rintro o w3 ⟨rfl, hR3, hf3⟩; replace hf3 := hf2.trans hf3; clear HS2) | (go_at_call 77; refine (HD _ hR3).mono ?_; rintro o w4 ⟨rfl, hR4, hf4⟩; replace hf4 := hf3.trans hf4; clear HD))
  have c9 : w4.cell? ⟨R, 9, none⟩ = some (.int .i64 (told : Int)) := hR4.told.trans (by rw [← ht])
  have c8 : w4.cell? ⟨R, 8, none⟩ = some (.slice a0 o.length cap) := hR4.out.trans (congrArg some eo)
  have c10 : w4.cell? ⟨R, 10, none⟩ = some (.int .i64 (most : Int)) := hR4.most.trans (by rw [← hm])
  clear ht hm eo ho hl hd
  go_region_dies
  all_goals (go_wp2_with (go_at_call 71; refine (must_no _ _).mono ?_; rintro e w' ⟨he, rfl⟩; unfold stopped at he; subst he))
  all_goals exact ⟨rfl, rfl, hf4.drew⟩

set_option maxRecDepth 100000 in
set_option maxHeartbeats 1000000 in
theorem element_big (R T D x p1 n p2 y p3 d p4 : Nat) (r : Rd) (w : World) (hR : RdAt w R r) (hl : r.lit = .pointer (some ⟨T, 0, none⟩)) (hx : 256 < x) (hd : r.dist = .pointer (some ⟨D, 0, none⟩)) (B told most : Nat) (o : List UInt8) (ho : OutAt w B r.out o) (ht : r.told = told) (hm : r.most = most) (hmm : most ≤ 281474976710656) (htm : told + o.length ≤ most) (hfar : d ≤ told + o.length) (hbig : most < told + o.length + n)
    (HS : Hid (Calls Try.prog 75 #[.pointer (some ⟨R, 0, none⟩), .pointer (some ⟨T, 0, none⟩)] w (Moves R r w (.ok (x, p1)))))
    (HL : ∀ w1, RdAt w1 R { r with bit := (p1 : Int) } → Calls Try.prog 76 #[.pointer (some ⟨R, 0, none⟩), .int .i64 (x : Int)] w1 (Moves R { r with bit := (p1 : Int) } w1 (.ok (n, p2))))
    (HS2 : ∀ w1, RdAt w1 R { r with bit := (p2 : Int) } → Fr (· = R) w w1 → Calls Try.prog 75 #[.pointer (some ⟨R, 0, none⟩), .pointer (some ⟨D, 0, none⟩)] w1 (Moves R { r with bit := (p2 : Int) } w1 (.ok (y, p3))))
    (HD : ∀ w1, RdAt w1 R { r with bit := (p3 : Int) } → Calls Try.prog 77 #[.pointer (some ⟨R, 0, none⟩), .int .i64 (y : Int)] w1 (Moves R { r with bit := (p3 : Int) } w1 (.ok (d, p4)))) :
    Calls Try.prog 59 #[.pointer (some ⟨R, 0, none⟩)] w fun o w' => o = stopped 93 ∧ Fr (· = R) w w' := by
  obtain ⟨a0, cap, eo, _⟩ := ho.slice
  have a1 : IntKind.i64.wrap ((told : Int) + (o.length : Int)) = (told : Int) + (o.length : Int) := IntWalk.i64_in _ (by omega)
  have a3 : decide ((d : Int) ≤ (told : Int) + (o.length : Int)) = true := by simp; omega
  have a4 : IntKind.i64.wrap ((most : Int) - (told : Int)) = (most : Int) - (told : Int) := IntWalk.i64_in _ (by omega)
  have a5 : IntKind.i64.wrap ((most : Int) - (told : Int) - (o.length : Int)) = (most : Int) - (told : Int) - (o.length : Int) := IntWalk.i64_in _ (by omega)
  have a6 : decide ((n : Int) ≤ (most : Int) - (told : Int) - (o.length : Int)) = false := by simp; omega
  have c5 := hR.lit
  rw [hl] at c5
  have q1 : decide ((x : Int) < 256) = false := by simp; omega
  have q2 : ((x : Int) == 256) = false := by simp; omega
  have q3 : decide (x < 256) = false := by simp; omega
  clear hR hx
  go_enter Try.func59, Try.ntmps59
  go_wp2_with (first | (go_at_call 75; refine HS.out.mono ?_; rintro o w1 ⟨rfl, hR1, hf1⟩; clear HS) | (go_at_call 76; refine (HL _ hR1).mono ?_; rintro o w2 ⟨rfl, hR2, hf2⟩; replace hf2 := hf1.trans hf2; clear HL; have c6 : w2.cell? ⟨R, 6, none⟩ = some (.pointer (some ⟨D, 0, none⟩)) := hR2.dist.trans (congrArg some hd)))
  go_wp2_with (first | (go_at_call 75; refine (HS2 _ hR2 hf2).mono ?_; rintro o w3 ⟨rfl, hR3, hf3⟩; replace hf3 := hf2.trans hf3; clear HS2) | (go_at_call 77; refine (HD _ hR3).mono ?_; rintro o w4 ⟨rfl, hR4, hf4⟩; replace hf4 := hf3.trans hf4; clear HD))
  have c9 : w4.cell? ⟨R, 9, none⟩ = some (.int .i64 (told : Int)) := hR4.told.trans (by rw [← ht])
  have c8 : w4.cell? ⟨R, 8, none⟩ = some (.slice a0 o.length cap) := hR4.out.trans (congrArg some eo)
  have c10 : w4.cell? ⟨R, 10, none⟩ = some (.int .i64 (most : Int)) := hR4.most.trans (by rw [← hm])
  go_quiet ((go_at_call 71; exact Calls.quiet_of_same (must_q _ _)))
  clear c9 c8 c10 a1 a3
  replace hR4 := hR4.drewN nq
  replace hf4 := hf4.drewN nq
  generalize w4.drewN nq = w5 at *
  have c9 : w5.cell? ⟨R, 9, none⟩ = some (.int .i64 (told : Int)) := hR4.told.trans (by rw [← ht])
  have c8 : w5.cell? ⟨R, 8, none⟩ = some (.slice a0 o.length cap) := hR4.out.trans (congrArg some eo)
  have c10 : w5.cell? ⟨R, 10, none⟩ = some (.int .i64 (most : Int)) := hR4.most.trans (by rw [← hm])
  clear ht hm eo ho hl hd
  go_wp2_with fail
  go_region_dies
  all_goals (go_wp2_with (go_at_call 71; refine (must_no _ _).mono ?_; rintro e w' ⟨he, rfl⟩; unfold stopped at he; subst he))
  all_goals exact ⟨rfl, rfl, hf4.drew⟩

end Go.Proofs.Ytcjcmlnbchmnnaa
