/- (*inflate.Reader).symbol: a symbol by a table: its contract. -/
import Derived.Test.YtcjcmlnbchmnnaaIBits
namespace Go.Proofs.Ytcjcmlnbchmnnaa
open Go.RowKit

set_option maxRecDepth 100000 in
set_option maxHeartbeats 1000000 in
theorem symbol_no (R T : Nat) (ns : List Nat) (r : Rd) (pos : Nat) (x nx e : Int) (w : World) (hR : RdAt w R r) (hT : TableAt w T ns) (hsh : Hm.Short ns) (hp : r.bit = pos) (hpos : pos ≤ 9007199254740992) (hs : r.s.size ≤ 281474976710656) (hread : Hm.read ns r.s.data.toList pos = (x, nx, e)) (he : e ≠ 0) :
    Calls Try.prog 75 #[.pointer (some ⟨R, 0, none⟩), .pointer (some ⟨T, 0, none⟩)] w fun o w' => o = stopped (if e = 84 then 0 else 91) ∧ Fr (· = R) w w' := by
  have c0 := hR.s
  have c1 := hR.bit
  rw [hp] at c1
  have HD := Lib.hid (read_in T ns r.s pos w.drew (hT.below (Below.refl _ _).drew) hsh hs (by omega))
  rw [hread] at HD
  have hf0 := (Fr.refl (· = R) w).drew
  clear hp hread hT hsh hR
  go_enter Try.func75, Try.ntmps75
  go_wp2_with fail
  by_cases he84 : e = 84
  · subst he84
    go_region_with (go_at_call 86; refine HD.out.mono ?_; rintro o w' ⟨ho, hb⟩; unfold tri at ho; subst ho)
    all_goals
      have hf := hf0.below hb
      go_wp2_with (go_at_call 71; refine (must_no _ _).mono ?_; rintro e w' ⟨he, rfl⟩; unfold stopped at he; subst he)
      exact ⟨rfl, rfl, hf⟩
  · have q1 : (e == 84) = false := by simpa using he84
    have q2 : (e == 0) = false := by simpa using he
    have q3 : (e != 84) = true := by simpa using he84
    go_region_with (go_at_call 86; refine HD.out.mono ?_; rintro o w' ⟨ho, hb⟩; unfold tri at ho; subst ho)
    all_goals
      have hf := hf0.below hb
      go_wp2_with (first | (go_at_call_of 71 (Value.bool true); refine (must_yes _ _).mono ?_; rintro e w' ⟨rfl, rfl⟩) | (go_at_call_of 71 (Value.bool false); refine (must_no _ _).mono ?_; rintro e w' ⟨he, rfl⟩; unfold stopped at he; subst he))
      exact ⟨rfl, rfl, hf⟩

set_option maxRecDepth 100000 in
set_option maxHeartbeats 1000000 in
theorem symbol_yes (R T : Nat) (ns : List Nat) (r : Rd) (pos : Nat) (x nx : Int) (w : World) (hR : RdAt w R r) (hT : TableAt w T ns) (hsh : Hm.Short ns) (hp : r.bit = pos) (hpos : pos ≤ 9007199254740992) (hs : r.s.size ≤ 281474976710656) (hread : Hm.read ns r.s.data.toList pos = (x, nx, 0)) :
    Calls Try.prog 75 #[.pointer (some ⟨R, 0, none⟩), .pointer (some ⟨T, 0, none⟩)] w fun o w' => o = .returned (.int .i64 x) ∧ RdAt w' R { r with bit := nx } ∧ Fr (· = R) w w' := by
  have c0 := hR.s
  have c1 := hR.bit
  rw [hp] at c1
  have HD := Lib.hid (read_in T ns r.s pos w.drew (hT.below (Below.refl _ _).drew) hsh hs (by omega))
  rw [hread] at HD
  have hf0 := (Fr.refl (· = R) w).drew
  have hRd := hR.drew
  clear hp hread hT hsh hR
  go_enter Try.func75, Try.ntmps75
  go_wp2_with fail
  go_region_with (go_at_call 86; refine HD.out.mono ?_; rintro o w' ⟨ho, hb⟩; unfold tri at ho; subst ho)
  all_goals
    have hf := (hf0.below hb).setCell (p := ⟨R, 1, none⟩) (Or.inl rfl) (.int .i64 nx)
    have hR2 := hRd.below hb
    have f1 := hR2.frozen 1
    have c1' := hR2.bit
    go_wp2_with (go_at_call 71; refine (must_yes _ _).mono ?_; rintro e w' ⟨rfl, rfl⟩)
    go_ret
    exact ⟨rfl, hR2.set 1 _ rfl, hf⟩
end Go.Proofs.Ytcjcmlnbchmnnaa
