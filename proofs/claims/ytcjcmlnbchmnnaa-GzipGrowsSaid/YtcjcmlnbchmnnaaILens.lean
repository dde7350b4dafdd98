/- (*inflate.Reader).length, distance: their contracts. -/
import Derived.Test.YtcjcmlnbchmnnaaIBits
namespace Go.Proofs.Ytcjcmlnbchmnnaa
open Go.RowKit

set_option maxRecDepth 100000 in
set_option maxHeartbeats 1000000 in
theorem length_no (R x : Nat) (w : World) (h : 285 < x) (hx : x ≤ 65535) :
    Calls Try.prog 76 #[.pointer (some ⟨R, 0, none⟩), .int .i64 (x : Int)] w fun o w' => o = stopped 91 ∧ w = w' := by
  have q1 : decide ((x : Int) ≤ 285) = false := by simp; omega
  go_enter Try.func76, Try.ntmps76
  go_wp2_with (go_at_call 71; refine (must_no _ _).mono ?_; rintro e w' ⟨he, rfl⟩; unfold stopped at he; subst he)
  exact ⟨rfl, rfl, rfl⟩

set_option maxRecDepth 100000 in
set_option maxHeartbeats 1000000 in
theorem length_last (R : Nat) (w : World) :
    Calls Try.prog 76 #[.pointer (some ⟨R, 0, none⟩), .int .i64 285] w fun o w' => o = .returned (.int .i64 258) ∧ w = w' := by
  go_enter Try.func76, Try.ntmps76
  go_wp2_with (go_at_call 71; refine (must_yes _ _).mono ?_; rintro e w' ⟨rfl, rfl⟩)
  go_ret
  exact ⟨rfl, rfl⟩

set_option maxRecDepth 100000 in
set_option maxHeartbeats 1000000 in
theorem length_small (R x : Nat) (w : World) (h : 256 < x) (hx : x < 265) :
    Calls Try.prog 76 #[.pointer (some ⟨R, 0, none⟩), .int .i64 (x : Int)] w fun o w' => o = .returned (.int .i64 ((x - 254 : Nat) : Int)) ∧ w = w' := by
  have q1 : decide ((x : Int) ≤ 285) = true := by simp; omega
  have q2 : ((x : Int) == 285) = false := by simp; omega
  have q3 : decide ((x : Int) < 265) = true := by simp; omega
  have a1 : IntKind.i64.wrap ((x : Int) - 254) = ((x - 254 : Nat) : Int) := by rw [IntWalk.i64_in _ (by omega)]; omega
  go_enter Try.func76, Try.ntmps76
  go_wp2_with (go_at_call 71; refine (must_yes _ _).mono ?_; rintro e w' ⟨rfl, rfl⟩)
  go_ret
  exact ⟨rfl, rfl⟩

set_option maxRecDepth 100000 in
set_option maxHeartbeats 1000000 in
theorem length_big (R x : Nat) (r : Rd) (pos : Nat) (w : World) (hR : RdAt w R r) (hp : r.bit = pos) (hpos : pos ≤ 9007199254740992) (hs : r.s.size ≤ 281474976710656) (h1 : 265 ≤ x) (h2 : x < 285) (hb : pos + (x - 261) / 4 ≤ 8 * r.s.size) :
    Calls Try.prog 76 #[.pointer (some ⟨R, 0, none⟩), .int .i64 (x : Int)] w fun o w' => o = .returned (.int .i64 ((3 + (4 + (x - 265) % 4) * 2 ^ ((x - 261) / 4) + Im.num r.s.data.toList pos ((x - 261) / 4) : Nat) : Int)) ∧ RdAt w' R { r with bit := ((pos + (x - 261) / 4 : Nat) : Int) } ∧ Fr (· = R) w w' := by
  have q1 : decide ((x : Int) ≤ 285) = true := by simp; omega
  have q2 : ((x : Int) == 285) = false := by simp; omega
  have q3 : decide ((x : Int) < 265) = false := by simp; omega
  obtain ⟨z, rfl⟩ : ∃ z, x = 265 + z := ⟨x - 265, by omega⟩
  have HB := fun w' hR' => Lib.hid (bits_yes R r pos ((265 + z - 261) / 4) w' hR' hp (by omega) hpos hs hb)
  have a1 : IntKind.i64.wrap (((265 + z : Nat) : Int) - 261) = ((z + 4 : Nat) : Int) := by rw [IntWalk.i64_in _ (by omega)]; omega
  have a2 : IntKind.i64.wrap (((265 + z : Nat) : Int) - 265) = (z : Int) := by rw [IntWalk.i64_in _ (by omega)]; omega
  have e1 : 265 + z - 261 = z + 4 := by omega
  have e2 : 265 + z - 265 = z := by omega
  rw [e1] at HB
  rw [e1, e2]
  have a3 : IntKind.i64.wrap (((z + 4 : Nat) : Int) / 4) = (((z + 4) / 4 : Nat) : Int) := by rw [IntWalk.i64_in _ (by omega)]; omega
  have hm : (z + 4) / 4 ≤ 5 := by omega
  have hz : z < 20 := by omega
  clear e1 e2 hb h1 h2 hp
  have hN := Im.num_lt r.s.data.toList pos ((z + 4) / 4)
  generalize (z + 4) / 4 = m at *
  generalize z + 4 = y at *
  generalize 265 + z = x at *
  have hp2 : 2 ^ m ≤ 32 := Nat.pow_le_pow_right (n := 2) (j := 5) (by omega) hm
  generalize Im.num r.s.data.toList pos m = N at *
  have b1 : (z : Int).tmod 4 = ((z % 4 : Nat) : Int) := rfl
  have hu : (4 + z % 4) * 2 ^ m ≤ 224 := by
    have : 4 + z % 4 ≤ 7 := by omega
    exact Nat.mul_le_mul this hp2
  have b2 : IntKind.i64.wrap (4 + ((z % 4 : Nat) : Int)) = ((4 + z % 4 : Nat) : Int) := by rw [IntWalk.i64_in _ (by omega)]; omega
  have b3 : IntKind.i64.wrap (((4 + z % 4 : Nat) : Int) * 2 ^ m) = (((4 + z % 4) * 2 ^ m : Nat) : Int) := by
    have e : ((4 + z % 4 : Nat) : Int) * 2 ^ m = (((4 + z % 4) * 2 ^ m : Nat) : Int) := by rw [Int.natCast_mul, Int.natCast_pow]; rfl
    rw [e]; exact IntWalk.i64_in _ (by omega)
  have b4 : IntKind.i64.wrap (3 + (((4 + z % 4) * 2 ^ m : Nat) : Int)) = ((3 + (4 + z % 4) * 2 ^ m : Nat) : Int) := by rw [IntWalk.i64_in _ (by omega)]; omega
  have b5 : IntKind.i64.wrap (((3 + (4 + z % 4) * 2 ^ m : Nat) : Int) + (N : Int)) = ((3 + (4 + z % 4) * 2 ^ m + N : Nat) : Int) := by rw [IntWalk.i64_in _ (by omega)]; omega
  have b1' : (z : Int) % 4 = ((z % 4 : Nat) : Int) := by omega
  clear hu hp2
  generalize 3 + (4 + z % 4) * 2 ^ m + N = q4 at *
  generalize 3 + (4 + z % 4) * 2 ^ m = q3' at *
  generalize (4 + z % 4) * 2 ^ m = q2' at *
  generalize 4 + z % 4 = q1' at *
  generalize z % 4 = q0 at *
  have HR := Lib.hid hR
  have HF := Lib.hid ((Fr.refl (· = R) w).drew)
  clear hR hN hz
  have hmin : min m 64 = m := by omega
  go_enter Try.func76, Try.ntmps76
  go_wp2_with (go_at_call 71; refine (must_yes _ _).mono ?_; rintro e w' ⟨rfl, rfl⟩)
  go_region_with (go_at_call 57; refine (HB _ ?_).out.mono ?_; exact HR.out.drew; rintro o w' ⟨rfl, hR1, hf1⟩)
  have hf2 := HF.out.trans hf1
  go_wp2
  go_ret
  exact ⟨rfl, hR1, hf2⟩

set_option maxRecDepth 100000 in
set_option maxHeartbeats 1000000 in
theorem length_short (R x : Nat) (r : Rd) (pos : Nat) (w : World) (hR : RdAt w R r) (hp : r.bit = pos) (hpos : pos ≤ 9007199254740992) (hs : r.s.size ≤ 281474976710656) (h1 : 265 ≤ x) (h2 : x < 285) (hb : 8 * r.s.size < pos + (x - 261) / 4) :
    Calls Try.prog 76 #[.pointer (some ⟨R, 0, none⟩), .int .i64 (x : Int)] w fun o w' => o = stopped 0 ∧ Fr (· = R) w w' := by
  have q1 : decide ((x : Int) ≤ 285) = true := by simp; omega
  have q2 : ((x : Int) == 285) = false := by simp; omega
  have q3 : decide ((x : Int) < 265) = false := by simp; omega
  obtain ⟨z, rfl⟩ : ∃ z, x = 265 + z := ⟨x - 265, by omega⟩
  have HB := fun w' hR' => Lib.hid (bits_no R r pos ((265 + z - 261) / 4) w' hR' hp (by omega) hpos hs hb)
  have a1 : IntKind.i64.wrap (((265 + z : Nat) : Int) - 261) = ((z + 4 : Nat) : Int) := by rw [IntWalk.i64_in _ (by omega)]; omega
  have a2 : IntKind.i64.wrap (((265 + z : Nat) : Int) - 265) = (z : Int) := by rw [IntWalk.i64_in _ (by omega)]; omega
  have e1 : 265 + z - 261 = z + 4 := by omega
  rw [e1] at HB
  have a3 : IntKind.i64.wrap (((z + 4 : Nat) : Int) / 4) = (((z + 4) / 4 : Nat) : Int) := by rw [IntWalk.i64_in _ (by omega)]; omega
  clear e1 hb h1 h2 hp
  generalize (z + 4) / 4 = m at *
  generalize z + 4 = y at *
  generalize 265 + z = x at *
  have HR := Lib.hid hR
  have HF := Lib.hid ((Fr.refl (· = R) w).drew)
  clear hR
  go_enter Try.func76, Try.ntmps76
  go_wp2_with (go_at_call 71; refine (must_yes _ _).mono ?_; rintro e w' ⟨rfl, rfl⟩)
  go_region_dies
  all_goals (go_wp2_with (go_at_call 57; refine (HB _ ?_).out.mono ?_; exact HR.out.drew; rintro e w' ⟨he, hf1⟩; unfold stopped at he; subst he))
  all_goals exact ⟨rfl, rfl, HF.out.trans hf1⟩

set_option maxRecDepth 100000 in
set_option maxHeartbeats 1000000 in
theorem distance_no (R x : Nat) (w : World) (h : 29 < x) (hx : x ≤ 65535) :
    Calls Try.prog 77 #[.pointer (some ⟨R, 0, none⟩), .int .i64 (x : Int)] w fun o w' => o = stopped 91 ∧ w = w' := by
  have q1 : decide ((x : Int) ≤ 29) = false := by simp; omega
  go_enter Try.func77, Try.ntmps77
  go_wp2_with (go_at_call 71; refine (must_no _ _).mono ?_; rintro e w' ⟨he, rfl⟩; unfold stopped at he; subst he)
  exact ⟨rfl, rfl, rfl⟩

set_option maxRecDepth 100000 in
set_option maxHeartbeats 1000000 in
theorem distance_small (R x : Nat) (w : World) (hx : x < 4) :
    Calls Try.prog 77 #[.pointer (some ⟨R, 0, none⟩), .int .i64 (x : Int)] w fun o w' => o = .returned (.int .i64 ((x + 1 : Nat) : Int)) ∧ w = w' := by
  have q1 : decide ((x : Int) ≤ 29) = true := by simp; omega
  have q3 : decide ((x : Int) < 4) = true := by simp; omega
  have a1 : IntKind.i64.wrap ((x : Int) + 1) = ((x + 1 : Nat) : Int) := by rw [IntWalk.i64_in _ (by omega)]; omega
  generalize x + 1 = y at *
  go_enter Try.func77, Try.ntmps77
  go_wp2_with (go_at_call 71; refine (must_yes _ _).mono ?_; rintro e w' ⟨rfl, rfl⟩)
  go_ret
  exact ⟨rfl, rfl⟩

set_option maxRecDepth 100000 in
set_option maxHeartbeats 1000000 in
theorem distance_big (R x : Nat) (r : Rd) (pos : Nat) (w : World) (hR : RdAt w R r) (hp : r.bit = pos) (hpos : pos ≤ 9007199254740992) (hs : r.s.size ≤ 281474976710656) (h1 : 4 ≤ x) (h2 : x ≤ 29) (hb : pos + (x / 2 - 1) ≤ 8 * r.s.size) :
    Calls Try.prog 77 #[.pointer (some ⟨R, 0, none⟩), .int .i64 (x : Int)] w fun o w' => o = .returned (.int .i64 ((1 + (2 + x % 2) * 2 ^ (x / 2 - 1) + Im.num r.s.data.toList pos (x / 2 - 1) : Nat) : Int)) ∧ RdAt w' R { r with bit := ((pos + (x / 2 - 1) : Nat) : Int) } ∧ Fr (· = R) w w' := by
  have q1 : decide ((x : Int) ≤ 29) = true := by simp; omega
  have q3 : decide ((x : Int) < 4) = false := by simp; omega
  have HB := fun w' hR' => Lib.hid (bits_yes R r pos (x / 2 - 1) w' hR' hp (by omega) hpos hs hb)
  have a1 : IntKind.i64.wrap ((x : Int) / 2) = ((x / 2 : Nat) : Int) := by rw [IntWalk.i64_in _ (by omega)]; omega
  have a2 : IntKind.i64.wrap (((x / 2 : Nat) : Int) - 1) = ((x / 2 - 1 : Nat) : Int) := by rw [IntWalk.i64_in _ (by omega)]; omega
  have hN := Im.num_lt r.s.data.toList pos (x / 2 - 1)
  have hm : x / 2 - 1 ≤ 13 := by omega
  clear hb h1 h2 hp
  generalize x / 2 - 1 = m at *
  generalize x / 2 = y at *
  have hp2 : 2 ^ m ≤ 8192 := Nat.pow_le_pow_right (n := 2) (j := 13) (by omega) hm
  generalize Im.num r.s.data.toList pos m = N at *
  have b1 : (x : Int).tmod 2 = ((x % 2 : Nat) : Int) := rfl
  have b1' : (x : Int) % 2 = ((x % 2 : Nat) : Int) := by omega
  have b1'' : IntKind.i64.wrap ((x : Int) % 2) = ((x % 2 : Nat) : Int) := by rw [IntWalk.i64_in _ (by omega)]; omega
  have hu : (2 + x % 2) * 2 ^ m ≤ 24576 := by
    have : 2 + x % 2 ≤ 3 := by omega
    exact Nat.mul_le_mul this hp2
  have b2 : IntKind.i64.wrap (2 + ((x % 2 : Nat) : Int)) = ((2 + x % 2 : Nat) : Int) := by rw [IntWalk.i64_in _ (by omega)]; omega
  have b3 : IntKind.i64.wrap (((2 + x % 2 : Nat) : Int) * 2 ^ m) = (((2 + x % 2) * 2 ^ m : Nat) : Int) := by
    have e : ((2 + x % 2 : Nat) : Int) * 2 ^ m = (((2 + x % 2) * 2 ^ m : Nat) : Int) := by rw [Int.natCast_mul, Int.natCast_pow]; rfl
    rw [e]; exact IntWalk.i64_in _ (by omega)
  have b4 : IntKind.i64.wrap (1 + (((2 + x % 2) * 2 ^ m : Nat) : Int)) = ((1 + (2 + x % 2) * 2 ^ m : Nat) : Int) := by rw [IntWalk.i64_in _ (by omega)]; omega
  have b5 : IntKind.i64.wrap (((1 + (2 + x % 2) * 2 ^ m : Nat) : Int) + (N : Int)) = ((1 + (2 + x % 2) * 2 ^ m + N : Nat) : Int) := by rw [IntWalk.i64_in _ (by omega)]; omega
  clear hu hp2
  generalize 1 + (2 + x % 2) * 2 ^ m + N = q4 at *
  generalize 1 + (2 + x % 2) * 2 ^ m = q3' at *
  generalize (2 + x % 2) * 2 ^ m = q2' at *
  generalize 2 + x % 2 = q1' at *
  generalize x % 2 = q0 at *
  have HR := Lib.hid hR
  have HF := Lib.hid ((Fr.refl (· = R) w).drew)
  clear hR hN
  have hmin : min m 64 = m := by omega
  go_enter Try.func77, Try.ntmps77
  go_wp2_with (go_at_call 71; refine (must_yes _ _).mono ?_; rintro e w' ⟨rfl, rfl⟩)
  go_region_with (go_at_call 57; refine (HB _ ?_).out.mono ?_; exact HR.out.drew; rintro o w' ⟨rfl, hR1, hf1⟩)
  have hf2 := HF.out.trans hf1
  go_wp2
  go_ret
  exact ⟨rfl, hR1, hf2⟩

set_option maxRecDepth 100000 in
set_option maxHeartbeats 1000000 in
theorem distance_short (R x : Nat) (r : Rd) (pos : Nat) (w : World) (hR : RdAt w R r) (hp : r.bit = pos) (hpos : pos ≤ 9007199254740992) (hs : r.s.size ≤ 281474976710656) (h1 : 4 ≤ x) (h2 : x ≤ 29) (hb : 8 * r.s.size < pos + (x / 2 - 1)) :
    Calls Try.prog 77 #[.pointer (some ⟨R, 0, none⟩), .int .i64 (x : Int)] w fun o w' => o = stopped 0 ∧ Fr (· = R) w w' := by
  have q1 : decide ((x : Int) ≤ 29) = true := by simp; omega
  have q3 : decide ((x : Int) < 4) = false := by simp; omega
  have HB := fun w' hR' => Lib.hid (bits_no R r pos (x / 2 - 1) w' hR' hp (by omega) hpos hs hb)
  have a1 : IntKind.i64.wrap ((x : Int) / 2) = ((x / 2 : Nat) : Int) := by rw [IntWalk.i64_in _ (by omega)]; omega
  have a2 : IntKind.i64.wrap (((x / 2 : Nat) : Int) - 1) = ((x / 2 - 1 : Nat) : Int) := by rw [IntWalk.i64_in _ (by omega)]; omega
  clear hb h1 h2 hp
  generalize x / 2 - 1 = m at *
  generalize x / 2 = y at *
  have HR := Lib.hid hR
  have HF := Lib.hid ((Fr.refl (· = R) w).drew)
  clear hR
  go_enter Try.func77, Try.ntmps77
  go_wp2_with (go_at_call 71; refine (must_yes _ _).mono ?_; rintro e w' ⟨rfl, rfl⟩)
  go_region_dies
  all_goals (go_wp2_with (go_at_call 57; refine (HB _ ?_).out.mono ?_; exact HR.out.drew; rintro e w' ⟨he, hf1⟩; unfold stopped at he; subst he))
  all_goals exact ⟨rfl, rfl, HF.out.trans hf1⟩
end Go.Proofs.Ytcjcmlnbchmnnaa
