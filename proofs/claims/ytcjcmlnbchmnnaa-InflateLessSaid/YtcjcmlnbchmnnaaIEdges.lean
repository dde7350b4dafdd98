/- inflate.New, Done, Rest, Told: their contracts. -/
import Derived.Test.YtcjcmlnbchmnnaaGr
namespace Go.Proofs.Ytcjcmlnbchmnnaa
open Go.RowKit

/-- a new Reader's cells -/
def Rd.new (most : Int) : Rd := { s := ⟨#[]⟩, bit := 0, state := 0, last := false, left := 0, lit := .pointer none, dist := .pointer none, back := .slice none 0 0, out := .slice none 0 0, told := 0, most := most, e := 0 }
theorem new_no (most : Int) (w : World) (h : most < 0) : Calls Try.prog 28 #[.int .i64 most] w fun e w' => e = .returned (.tuple #[.pointer none, .int .i64 1]) ∧ w = w' := by
  go_enter Try.func28, Try.ntmps28
  go_wp2
  go_ret2
  exact ⟨rfl, rfl⟩
theorem new_yes (most : Int) (w : World) (h : 0 ≤ most) : Calls Try.prog 28 #[.int .i64 most] w fun e w' => e = .returned (.tuple #[.pointer (some ⟨w.heap.size, 0, none⟩), .int .i64 0]) ∧ w' = w.alloc (.cells (Rd.new most).cells 69) := by
  have h' : ¬ most < 0 := by omega
  go_enter Try.func28, Try.ntmps28
  go_wp2
  go_ret2
  exact ⟨rfl, rfl⟩
theorem done_any (R : Nat) (r : Rd) (w : World) (hR : RdAt w R r) : Calls Try.prog 30 #[.pointer (some ⟨R, 0, none⟩)] w fun e w' => e = .returned (.bool (decide (r.state = 3 ∧ r.e = 0))) ∧ w = w' := by
  have c2 := hR.state
  have c11 := hR.e
  by_cases h1 : r.state = 3
  · have q1 : (r.state == 3) = true := by simpa using h1
    by_cases h2 : r.e = 0
    · have q2 : (r.e == 0) = true := by simpa using h2
      have q3 := Lib.hid (show decide (r.state = 3 ∧ r.e = 0) = true from decide_eq_true ⟨h1, h2⟩)
      generalize decide (r.state = 3 ∧ r.e = 0) = d at *
      clear h1 h2 hR
      go_enter Try.func30, Try.ntmps30
      go_wp2
      go_ret
      exact ⟨by rw [q3.out]; rfl, rfl⟩
    · have q2 : (r.e == 0) = false := by simpa using h2
      have q3 := Lib.hid (show decide (r.state = 3 ∧ r.e = 0) = false from decide_eq_false fun q => h2 q.2)
      generalize decide (r.state = 3 ∧ r.e = 0) = d at *
      clear h1 h2 hR
      go_enter Try.func30, Try.ntmps30
      go_wp2
      go_ret
      exact ⟨by rw [q3.out]; rfl, rfl⟩
  · have q1 : (r.state == 3) = false := by simpa using h1
    have q3 := Lib.hid (show decide (r.state = 3 ∧ r.e = 0) = false from decide_eq_false fun q => h1 q.1)
    generalize decide (r.state = 3 ∧ r.e = 0) = d at *
    clear h1 hR
    go_enter Try.func30, Try.ntmps30
    go_wp2
    go_ret
    exact ⟨by rw [q3.out]; rfl, rfl⟩
theorem rest_any (R : Nat) (r : Rd) (w : World) (hR : RdAt w R r) : Calls Try.prog 31 #[.pointer (some ⟨R, 0, none⟩)] w fun e w' => e = .returned (.string (if r.state = 3 ∧ r.e = 0 then r.s else ⟨#[]⟩)) ∧ w = w' := by
  have HD := Lib.hid (done_any R r w hR)
  have c0 := hR.s
  by_cases h : r.state = 3 ∧ r.e = 0
  · have q3 : (if r.state = 3 ∧ r.e = 0 then r.s else (⟨#[]⟩ : ByteArray)) = r.s := if_pos h
    replace q3 := Lib.hid q3
    rw [decide_eq_true h] at HD
    generalize (if r.state = 3 ∧ r.e = 0 then r.s else (⟨#[]⟩ : ByteArray)) = d at *
    clear h hR
    go_enter Try.func31, Try.ntmps31
    go_wp2_with (go_at_call 30; refine HD.out.mono ?_; rintro e w' ⟨rfl, rfl⟩)
    go_ret
    exact ⟨by rw [q3.out]; rfl, rfl⟩
  · have q3 : (if r.state = 3 ∧ r.e = 0 then r.s else (⟨#[]⟩ : ByteArray)) = ⟨#[]⟩ := if_neg h
    replace q3 := Lib.hid q3
    rw [decide_eq_false h] at HD
    generalize (if r.state = 3 ∧ r.e = 0 then r.s else (⟨#[]⟩ : ByteArray)) = d at *
    clear h hR
    go_enter Try.func31, Try.ntmps31
    go_wp2_with (go_at_call 30; refine HD.out.mono ?_; rintro e w' ⟨rfl, rfl⟩)
    go_ret
    exact ⟨by rw [q3.out]; rfl, rfl⟩
theorem told_any (R : Nat) (r : Rd) (w : World) (hR : RdAt w R r) : Calls Try.prog 37 #[.pointer (some ⟨R, 0, none⟩)] w fun e w' => e = .returned (.int .i64 r.told) ∧ w = w' := by
  have c9 := hR.told
  go_enter Try.func37, Try.ntmps37
  go_wp2
  go_ret
  exact ⟨rfl, rfl⟩
end Go.Proofs.Ytcjcmlnbchmnnaa
