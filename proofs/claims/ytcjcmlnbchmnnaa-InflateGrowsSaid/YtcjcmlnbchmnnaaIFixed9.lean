/- farrierlaw09.fixed tells true. -/
import Derived.Test.YtcjcmlnbchmnnaaIHist
import Derived.Test.YtcjcmlnbchmnnaaIFix
namespace Go.Proofs.Ytcjcmlnbchmnnaa
open Go.RowKit

set_option maxHeartbeats 2000000 in
set_option maxRecDepth 100000 in
theorem fixed9 (w : World) : Calls Try.prog 25 #[] w fun o w' => o = .returned (.bool true) ∧ Below w.heap.size w w' := by
  have H1 : ∀ w : World, Hid (Calls Try.prog 27 #[.string ⟨#[1, 2, 0, 253, 255, 97, 98, 120]⟩, .int .i64 2] w fun o w' => o = .returned (.tuple #[.string ⟨#[97, 98]⟩, .int .i64 7, .int .i64 0]) ∧ Below w.heap.size w w') := fun w => one_run 2 ⟨#[1, 2, 0, 253, 255, 97, 98, 120]⟩ w Im.fxEnd 0 (by omega) (by decide) (Im.fx_all 2 (by omega))
  have H2 : ∀ w : World, Hid (Calls Try.prog 27 #[.string ⟨#[1, 2, 0, 253, 255, 97, 98, 120]⟩, .int .i64 1] w fun o w' => o = .returned (.tuple #[.string ⟨#[]⟩, .int .i64 0, .int .i64 93]) ∧ Below w.heap.size w w') := fun w => by
    obtain ⟨c, hc⟩ := Im.fx_less
    exact one_run 1 ⟨#[1, 2, 0, 253, 255, 97, 98, 120]⟩ w c 93 (by omega) (by decide) hc
  have H3 : ∀ w : World, Hid (Calls Try.prog 27 #[.string ⟨#[75, 4, 0]⟩, .int .i64 9] w fun o w' => o = .returned (.tuple #[.string ⟨#[97]⟩, .int .i64 3, .int .i64 0]) ∧ Below w.heap.size w w') := fun w => by
    obtain ⟨b, h1, h2, h3, h4⟩ := Im.fx_lit
    have := one_run 9 ⟨#[75, 4, 0]⟩ w b 0 (by omega) (by decide) h1
    unfold OneIn oneO oneN oneE at this
    rw [if_pos ⟨rfl, h2⟩, if_pos ⟨rfl, h2⟩, if_neg (by simp), if_pos h2, h3, h4] at this
    exact this
  have H4 : ∀ w : World, Hid (Calls Try.prog 27 #[.string ⟨#[7]⟩, .int .i64 9] w fun o w' => o = .returned (.tuple #[.string ⟨#[]⟩, .int .i64 0, .int .i64 90]) ∧ Below w.heap.size w w') := fun w => one_run 9 ⟨#[7]⟩ w Im.start 90 (by omega) (by decide) Im.fx_form
  have H5 : ∀ w : World, Hid (Calls Try.prog 27 #[.string ⟨#[]⟩, .int .i64 9] w fun o w' => o = .returned (.tuple #[.string ⟨#[]⟩, .int .i64 0, .int .i64 94]) ∧ Below w.heap.size w w') := fun w => one_run 9 ⟨#[]⟩ w Im.start 0 (by omega) (by decide) (run_nil 9)
  have H6 : ∀ w : World, Hid (Calls Try.prog 28 #[.int .i64 (-1)] w fun o w' => o = .returned (.tuple #[.pointer none, .int .i64 1]) ∧ w = w') := fun w => new_no (-1) w (by omega)
  have H7 : ∀ w : World, Hid (Calls Try.prog 28 #[.int .i64 9] w fun o w' => o = .returned (.tuple #[.pointer (some ⟨w.heap.size, 0, none⟩), .int .i64 0]) ∧ Hist w' w.heap.size w.heap.size 9 [] Im.start ∧ Below w.heap.size w w') := fun w => hist_new 9 w (by omega)
  have H8 : ∀ (w : World) (R L : Nat), Hist w R L 9 [] Im.start → L ≤ w.heap.size → Hid (Calls Try.prog 29 #[.pointer (some ⟨R, 0, none⟩), .string ⟨#[1, 2, 0, 253, 255, 97]⟩] w fun o w' => o = .returned (.tuple #[.string ⟨#[97]⟩, .int .i64 0]) ∧ Hist w' R L 9 [1, 2, 0, 253, 255, 97] Im.fxHalf ∧ Below L w w') := fun w R L h hL =>
    hist_write_ok R L 9 [] Im.start Im.fxHalf ⟨#[1, 2, 0, 253, 255, 97]⟩ w h hL (by decide) Im.fx_half
  have H9 : ∀ (w : World) (R L : Nat), Hist w R L 9 [1, 2, 0, 253, 255, 97] Im.fxHalf → L ≤ w.heap.size → Hid (Calls Try.prog 29 #[.pointer (some ⟨R, 0, none⟩), .string ⟨#[98, 120]⟩] w fun o w' => o = .returned (.tuple #[.string ⟨#[98]⟩, .int .i64 0]) ∧ Hist w' R L 9 Im.fxS Im.fxEnd ∧ Below L w w') := fun w R L h hL =>
    hist_write_ok R L 9 [1, 2, 0, 253, 255, 97] Im.fxHalf Im.fxEnd ⟨#[98, 120]⟩ w h hL (by decide) (Im.fx_all 9 (by omega))
  have H10 : ∀ (w : World) (R L : Nat), Hist w R L 9 Im.fxS Im.fxEnd → Hid (Calls Try.prog 30 #[.pointer (some ⟨R, 0, none⟩)] w fun o w' => o = .returned (.bool true) ∧ w = w') := fun w R L h => hist_done R L 9 Im.fxS Im.fxEnd w h
  have H11 : ∀ (w : World) (R L : Nat), Hist w R L 9 Im.fxS Im.fxEnd → Hid (Calls Try.prog 31 #[.pointer (some ⟨R, 0, none⟩)] w fun o w' => o = .returned (.string ⟨#[120]⟩) ∧ w = w') := fun w R L h => hist_rest R L 9 Im.fxS Im.fxEnd w h
  have H12 : ∀ (w : World) (R L : Nat), Hist w R L 9 Im.fxS Im.fxEnd → Hid (Calls Try.prog 37 #[.pointer (some ⟨R, 0, none⟩)] w fun o w' => o = .returned (.int .i64 2) ∧ w = w') := fun w R L h => hist_told R L 9 Im.fxS Im.fxEnd w h
  generalize Im.fxS = fS at *
  generalize Im.fxEnd = fE at *
  generalize Im.fxHalf = fH at *
  have e6 : (ByteArray.mk #[1, 2, 0, 253, 255, 97, 98, 120]).extract 0 6 = ⟨#[1, 2, 0, 253, 255, 97]⟩ := by decide
  have e8 : (ByteArray.mk #[1, 2, 0, 253, 255, 97, 98, 120]).extract 6 8 = ⟨#[98, 120]⟩ := by decide
  go_enter Try.func25, Try.ntmps25
  go_wp2_with (first | (go_at_call 27; with_reducible refine (H1 _).out.mono ?_; rintro q w1 ⟨rfl, hb1⟩; clear H1) | (go_at_call 27; with_reducible refine (H2 _).out.mono ?_; rintro q w2 ⟨rfl, hb2⟩; clear H2) | (go_at_call 27; with_reducible refine (H3 _).out.mono ?_; rintro q w3 ⟨rfl, hb3⟩; clear H3) | (go_at_call 27; with_reducible refine (H4 _).out.mono ?_; rintro q w4 ⟨rfl, hb4⟩; clear H4) | (go_at_call 27; with_reducible refine (H5 _).out.mono ?_; rintro q w5 ⟨rfl, hb5⟩; clear H5) | (go_at_call 28; with_reducible refine (H6 _).out.mono ?_; rintro q w6 ⟨rfl, rfl⟩; clear H6) | (go_at_call 28; with_reducible refine (H7 _).out.mono ?_; rintro q w7 ⟨rfl, h7, hb7⟩; clear H7; have hL7 := hb7.size; have hB5 := belThen (belThen (belThen (belThen hb1 hb2) hb3) hb4) hb5; have hLw := hB5.size; generalize w5.heap.size = L at *) | (go_at_call 29; with_reducible refine (H8 _ _ _ h7 hL7).out.mono ?_; rintro q w8 ⟨rfl, h8, hb8⟩; clear H8; have hL8 := Nat.le_trans hL7 hb8.size) | (go_at_call 29; with_reducible refine (H9 _ _ _ h8 hL8).out.mono ?_; rintro q w9 ⟨rfl, h9, hb9⟩; clear H9) | (go_at_call 30; with_reducible refine (H10 _ _ _ h9).out.mono ?_; rintro q w10 ⟨rfl, rfl⟩; clear H10) | (go_at_call 31; with_reducible refine (H11 _ _ _ h9).out.mono ?_; rintro q w10 ⟨rfl, rfl⟩; clear H11) | (go_at_call 37; with_reducible refine (H12 _ _ _ h9).out.mono ?_; rintro q w10 ⟨rfl, rfl⟩; clear H12))
  go_ret
  exact ⟨rfl, ((hB5.trans (hb7.mono hLw)).trans (hb8.mono hLw)).trans (hb9.mono hLw)⟩
end Go.Proofs.Ytcjcmlnbchmnnaa
