/- inflate.table, (*inflate.Reader).ends: their contracts. -/
import Derived.Test.YtcjcmlnbchmnnaaIBits
import Derived.Test.YtcjcmlnbchmnnaaRd
namespace Go.Proofs.Ytcjcmlnbchmnnaa
open Go.RowKit

set_option maxRecDepth 100000 in
set_option maxHeartbeats 1000000 in
theorem table_no (ao : Option Addr) (cap : Nat) (ns : List Nat) (w : World) (hs : SInts w ao (ints ns)) (hsh : Hm.Short ns) (hl : ns.length ≤ 288) (herr : Hm.err ns ≠ 0) :
    Calls Try.prog 73 #[.slice ao ns.length cap] w fun o w' => o = stopped 90 ∧ Below w.heap.size w w' := by
  have q2 : (Hm.err ns == 0) = false := by simpa using herr
  have HD := Lib.hid (new_err ao cap ns w hs hsh hl herr)
  clear hs hsh hl herr
  generalize Hm.err ns = x at *
  go_enter Try.func73, Try.ntmps73
  go_wp2_with (first | (go_at_call 83; refine HD.out.mono ?_; rintro e w' ⟨rfl, hb⟩) | (go_at_call 71; refine (must_no _ _).mono ?_; rintro e w' ⟨he, rfl⟩; unfold stopped at he; subst he))
  exact ⟨rfl, rfl, hb⟩

def TableIn (ns : List Nat) (w : World) (e : Ending) (w' : World) : Prop :=
  ∃ T, w.heap.size ≤ T ∧ e = .returned (.pointer (some ⟨T, 0, none⟩)) ∧ TableAt w' T ns ∧ Below w.heap.size w w'
set_option maxRecDepth 100000 in
set_option maxHeartbeats 1000000 in
theorem table_yes (ao : Option Addr) (cap : Nat) (ns : List Nat) (w : World) (hs : SInts w ao (ints ns)) (hsh : Hm.Short ns) (hl : ns.length ≤ 288) (herr : Hm.err ns = 0) (hsr : Hm.share ns ≤ 32768) :
    Calls Try.prog 73 #[.slice ao ns.length cap] w (TableIn ns w) := by
  have HD := Lib.hid (new_in ao cap ns w hs hsh hl herr hsr)
  clear hs hsh hl herr hsr
  go_enter Try.func73, Try.ntmps73
  go_wp2_with (first | (go_at_call 83; refine HD.out.mono ?_; rintro e w' ⟨T, hT, rfl, ht, hb⟩) | (go_at_call 71; refine (must_yes _ _).mono ?_; rintro e w' ⟨rfl, rfl⟩))
  go_ret
  exact ⟨T, hT, rfl, ht, hb⟩

set_option maxRecDepth 100000 in
set_option maxHeartbeats 1000000 in
theorem ends_on (R : Nat) (r : Rd) (w : World) (hR : RdAt w R r) (hl : r.last = false) :
    Calls Try.prog 56 #[.pointer (some ⟨R, 0, none⟩)] w fun o w' => o = .returned (.tuple #[]) ∧ RdAt w' R { r with state := 0 } ∧ Fr (· = R) w w' := by
  have c2 := hR.state
  have f2 := hR.frozen 2
  have hR1 : RdAt (w.setCell ⟨R, 2, none⟩ (.int .i64 0)) R { r with state := 0 } := hR.set 2 _ rfl
  have hf := (Fr.refl (· = R) w).setCell (p := ⟨R, 2, none⟩) (Or.inl rfl) (.int .i64 0)
  have c3 := hR1.last
  simp only [hl] at c3
  clear hR hl
  go_enter Try.func56, Try.ntmps56
  go_wp2
  go_end0
  exact ⟨rfl, hR1, hf⟩

set_option maxRecDepth 100000 in
set_option maxHeartbeats 1000000 in
theorem ends_all (R : Nat) (r : Rd) (pos : Nat) (w : World) (hR : RdAt w R r) (hl : r.last = true) (hp : r.bit = pos) (hpos : pos ≤ 9007199254740992) :
    Calls Try.prog 56 #[.pointer (some ⟨R, 0, none⟩)] w fun o w' => o = .returned (.tuple #[]) ∧ RdAt w' R { r with state := 3, bit := (((pos + 7) / 8 * 8 : Nat) : Int) } ∧ Fr (· = R) w w' := by
  have c2 := hR.state
  have f2 := hR.frozen 2
  have hR1 : RdAt (w.setCell ⟨R, 2, none⟩ (.int .i64 0)) R { r with state := 0 } := hR.set 2 _ rfl
  have hf := (Fr.refl (· = R) w).setCell (p := ⟨R, 2, none⟩) (Or.inl rfl) (.int .i64 0)
  have c3 := hR1.last
  simp only [hl] at c3
  have d2 := hR1.state
  have d2f := hR1.frozen 2
  have hR2 : RdAt ((w.setCell ⟨R, 2, none⟩ (.int .i64 0)).setCell ⟨R, 2, none⟩ (.int .i64 3)) R { r with state := 3 } := hR1.set 2 _ rfl
  have hf2 := hf.setCell (p := ⟨R, 2, none⟩) (Or.inl rfl) (.int .i64 3)
  have e1 := hR2.bit
  have e1f := hR2.frozen 1
  simp only [hp] at e1
  have a1 : IntKind.i64.wrap ((pos : Int) + 7) = ((pos + 7 : Nat) : Int) := by rw [IntWalk.i64_in _ (by omega)]; omega
  have a2 : IntKind.i64.wrap (((pos + 7 : Nat) : Int) / 8) = ((pos + 7 : Nat) : Int) / 8 := IntWalk.i64_in _ (by omega)
  have a3 : IntKind.i64.wrap (((pos + 7 : Nat) : Int) / 8 * 8) = ((pos + 7 : Nat) : Int) / 8 * 8 := IntWalk.i64_in _ (by omega)
  have hR3 : RdAt (((w.setCell ⟨R, 2, none⟩ (.int .i64 0)).setCell ⟨R, 2, none⟩ (.int .i64 3)).setCell ⟨R, 1, none⟩ (.int .i64 (((pos + 7 : Nat) : Int) / 8 * 8))) R { r with state := 3, bit := (((pos + 7) / 8 * 8 : Nat) : Int) } := hR2.set 1 _ (by simp [Rd.cells])
  have hf3 := hf2.setCell (p := ⟨R, 1, none⟩) (Or.inl rfl) (.int .i64 (((pos + 7 : Nat) : Int) / 8 * 8))
  clear hR hl hR1 hR2 hf hf2 hp
  generalize pos + 7 = p7 at *
  go_enter Try.func56, Try.ntmps56
  go_wp2
  go_end0
  exact ⟨rfl, hR3, hf3⟩
end Go.Proofs.Ytcjcmlnbchmnnaa
