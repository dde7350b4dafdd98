/- farrierlaw02.fixed: the calls whose answers the document fixes: it returns true. -/
import Derived.Test.YthdabijojboehaaGet
import Derived.Test.YthdabijojboehaaPut
import Derived.Test.YthdabijojboehaaCrc
import Derived.Test.YthdabijojboehaaHex
import Derived.Test.YthdabijojboehaaUnhex
namespace Go.Proofs.Ythdabijojboehaa
open Go.RowKit

theorem fx_put1 (w : World) : Calls Try.prog 10 #[.int .i64 258, .int .i64 2] w fun e w' => e = .returned (.tuple #[.string ⟨#[2, 1]⟩, .int .i64 0]) ∧ Below w.heap.size w w' :=
  put_yes 258 2 w (by decide) (by decide) (by decide)
theorem fx_put2 (w : World) : Calls Try.prog 10 #[.int .i64 256, .int .i64 1] w fun e w' => e = .returned (.tuple #[.string ⟨#[]⟩, .int .i64 20]) ∧ w = w' :=
  put_no 256 1 w (by decide) (by decide) (.inr (.inr (.inr (by decide))))
theorem fx_get (w : World) : Calls Try.prog 12 #[.string ⟨#[2, 1]⟩] w fun e w' => e = .returned (.tuple #[.int .i64 258, .int .i64 0]) ∧ w = w' :=
  get_yes ⟨#[2, 1]⟩ w (by decide) (by decide)
theorem fx_un1 (w : World) : Calls Try.prog 15 #[.string ⟨#[48, 48, 65, 66]⟩] w fun e w' => e = .returned (.tuple #[.string ⟨#[]⟩, .int .i64 21]) ∧ Below w.heap.size w w' :=
  unhex_any ⟨#[48, 48, 65, 66]⟩ w (by decide)
theorem fx_un2 (w : World) : Calls Try.prog 15 #[.string ⟨#[48, 48, 97, 98]⟩] w fun e w' => e = .returned (.tuple #[.string ⟨#[0, 171]⟩, .int .i64 0]) ∧ Below w.heap.size w w' :=
  unhex_any ⟨#[48, 48, 97, 98]⟩ w (by decide)
theorem fx_crcv : (Cm.crc 0 [49, 50, 51, 52, 53, 54, 55, 56, 57] : Nat) = 3421780262 := by decide +kernel
theorem fx_crc (w : World) : Calls Try.prog 17 #[.int .u32 0, .string ⟨#[49, 50, 51, 52, 53, 54, 55, 56, 57]⟩] w fun e w' => e = .returned (.int .u32 3421780262) ∧ w = w' := by
  have h := crc_any 0 ⟨#[49, 50, 51, 52, 53, 54, 55, 56, 57]⟩ w (by decide) (by decide)
  rw [fx_crcv] at h
  exact h
theorem fx_hex (w : World) : Calls Try.prog 19 #[.string ⟨#[0, 171]⟩] w fun e w' => e = .returned (.string ⟨#[48, 48, 97, 98]⟩) ∧ Below w.heap.size w w' :=
  hex_any ⟨#[0, 171]⟩ w (by decide)

set_option maxHeartbeats 400000 in
theorem fixed02 (w : World) : Calls Try.prog 14 #[] w fun e w' => e = .returned (.bool true) ∧ Below w.heap.size w w' := by
  go_enter Try.func14, Try.ntmps14
  go_wp2_with fail
  refine (fx_put1 _).mono ?_
  rintro e w1 ⟨rfl, hb1⟩
  go_wp2_with fail
  refine (fx_put2 _).mono ?_
  rintro e w2 ⟨rfl, rfl⟩
  go_wp2_with fail
  refine (fx_get _).mono ?_
  rintro e w2 ⟨rfl, rfl⟩
  go_wp2_with fail
  refine (fx_un1 _).mono ?_
  rintro e w2 ⟨rfl, hb2⟩
  go_wp2_with fail
  refine (fx_un2 _).mono ?_
  rintro e w3 ⟨rfl, hb3⟩
  go_wp2_with fail
  refine (fx_crc _).mono ?_
  rintro e w4 ⟨rfl, rfl⟩
  go_wp2_with fail
  refine (fx_hex _).mono ?_
  rintro e w4 ⟨rfl, hb4⟩
  go_wp2_with fail
  go_ret
  exact ⟨rfl, ((hb1.trans (hb2.mono hb1.size)).trans (hb3.mono (Nat.le_trans hb1.size hb2.size))).trans (hb4.mono (Nat.le_trans (Nat.le_trans hb1.size hb2.size) hb3.size))⟩
end Go.Proofs.Ythdabijojboehaa
