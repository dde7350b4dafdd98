/- bits, symbol, length, distance: their contracts by the model. -/
import Derived.Test.YtcjcmlnbchmnnaaISt
namespace Go.Proofs.Ytcjcmlnbchmnnaa
open Go.RowKit

theorem blen (s : ByteArray) : s.data.toList.length = s.size := Array.length_toList
theorem num_zero (s : List UInt8) (pos : Nat) : Im.num s pos 0 = 0 := rfl
theorem RdAt.same {w : World} {R : Nat} {r : Rd} {pos : Nat} (h : RdAt w R r) (hp : r.bit = (pos : Int)) : RdAt w R { r with bit := (pos : Int) } := by
  rw [← hp]; exact h
/-- the Reader's bit moves, or it stops -/
def Moves (R : Nat) (r : Rd) (w : World) (x : Except Int (Nat × Nat)) (o : Ending) (w' : World) : Prop :=
  match x with
  | .ok (n, p) => o = .returned (.int .i64 (n : Int)) ∧ RdAt w' R { r with bit := (p : Int) } ∧ Fr (· = R) w w'
  | .error e => o = stopped e ∧ Fr (· = R) w w'
theorem bits_moves (R : Nat) (r : Rd) (pos n : Nat) (w : World) (hR : RdAt w R r) (hp : r.bit = pos) (hn : n ≤ 16) (hpos : pos ≤ 8 * r.s.size) (hs : r.s.size ≤ 281474976710656) :
    Calls Try.prog 57 #[.pointer (some ⟨R, 0, none⟩), .int .i64 n] w (Moves R r w (Im.bitsP r.s.data.toList pos n)) := by
  unfold Im.bitsP
  rw [blen]
  by_cases h : pos + n ≤ 8 * r.s.size
  · rw [if_pos h]; exact bits_yes R r pos n w hR hp hn (by omega) hs h
  · rw [if_neg h]; exact bits_no R r pos n w hR hp hn (by omega) hs (by omega)
theorem symbol_moves (R T : Nat) (ns : List Nat) (r : Rd) (pos : Nat) (w : World) (hR : RdAt w R r) (hT : TableAt w T ns) (hsh : Hm.Short ns) (hp : r.bit = pos) (hpos : pos ≤ 8 * r.s.size) (hs : r.s.size ≤ 281474976710656) :
    Calls Try.prog 75 #[.pointer (some ⟨R, 0, none⟩), .pointer (some ⟨T, 0, none⟩)] w (Moves R r w (Im.symP ns r.s.data.toList pos)) := by
  cases h : Im.symP ns r.s.data.toList pos with
  | ok v =>
    obtain ⟨x, p⟩ := v
    obtain ⟨_, _, _, h4⟩ := Im.symP_ok h
    exact symbol_yes R T ns r pos x p w hR hT hsh hp (by omega) hs h4
  | error e =>
    obtain ⟨x, nx, c, h1, h2, rfl⟩ := Im.symP_err h
    exact symbol_no R T ns r pos x nx c w hR hT hsh hp (by omega) hs h1 h2
theorem length_moves (R x : Nat) (r : Rd) (pos : Nat) (w : World) (hR : RdAt w R r) (hp : r.bit = pos) (hpos : pos ≤ 8 * r.s.size) (hs : r.s.size ≤ 281474976710656) (hx : 256 < x) (hx2 : x ≤ 65535) :
    Calls Try.prog 76 #[.pointer (some ⟨R, 0, none⟩), .int .i64 (x : Int)] w (Moves R r w (Im.lenP r.s.data.toList x pos)) := by
  unfold Im.lenP
  rw [blen]
  by_cases h : 285 < x
  · rw [if_pos h]
    refine (length_no R x w h hx2).mono ?_
    rintro o w' ⟨rfl, rfl⟩
    exact ⟨rfl, Fr.refl _ w⟩
  rw [if_neg h]
  by_cases h1 : x = 285
  · subst h1
    have e1 : Im.lenMore 285 = 0 := rfl
    have e2 : Im.lenBase 285 = 258 := rfl
    rw [e1, e2, if_pos (by omega), num_zero, Nat.add_zero, Nat.add_zero]
    refine (length_last R w).mono ?_
    rintro o w' ⟨rfl, rfl⟩
    exact ⟨rfl, hR.same hp, Fr.refl _ w⟩
  by_cases h2 : x < 265
  · have e1 : Im.lenMore x = 0 := by unfold Im.lenMore; rw [if_neg h1, if_pos h2]
    have e2 : Im.lenBase x = x - 254 := by unfold Im.lenBase; rw [if_neg h1, if_pos h2]
    rw [e1, e2, if_pos (by omega), num_zero, Nat.add_zero, Nat.add_zero]
    refine (length_small R x w hx h2).mono ?_
    rintro o w' ⟨rfl, rfl⟩
    exact ⟨rfl, hR.same hp, Fr.refl _ w⟩
  have e1 : Im.lenMore x = (x - 261) / 4 := by unfold Im.lenMore; rw [if_neg h1, if_neg h2]
  have e2 : Im.lenBase x = 3 + (4 + (x - 265) % 4) * 2 ^ ((x - 261) / 4) := by unfold Im.lenBase; rw [if_neg h1, if_neg h2]
  rw [e1, e2]
  by_cases hb : pos + (x - 261) / 4 ≤ 8 * r.s.size
  · rw [if_pos hb]; exact length_big R x r pos w hR hp (by omega) hs (by omega) (by omega) hb
  · rw [if_neg hb]; exact length_short R x r pos w hR hp (by omega) hs (by omega) (by omega) (by omega)
theorem distance_moves (R x : Nat) (r : Rd) (pos : Nat) (w : World) (hR : RdAt w R r) (hp : r.bit = pos) (hpos : pos ≤ 8 * r.s.size) (hs : r.s.size ≤ 281474976710656) (hx2 : x ≤ 65535) :
    Calls Try.prog 77 #[.pointer (some ⟨R, 0, none⟩), .int .i64 (x : Int)] w (Moves R r w (Im.dstP r.s.data.toList x pos)) := by
  unfold Im.dstP
  rw [blen]
  by_cases h : 29 < x
  · rw [if_pos h]
    refine (distance_no R x w h hx2).mono ?_
    rintro o w' ⟨rfl, rfl⟩
    exact ⟨rfl, Fr.refl _ w⟩
  rw [if_neg h]
  by_cases h2 : x < 4
  · have e1 : Im.dstMore x = 0 := by unfold Im.dstMore; rw [if_pos h2]
    have e2 : Im.dstBase x = x + 1 := by unfold Im.dstBase; rw [if_pos h2]
    rw [e1, e2, if_pos (by omega), num_zero, Nat.add_zero, Nat.add_zero]
    refine (distance_small R x w h2).mono ?_
    rintro o w' ⟨rfl, rfl⟩
    exact ⟨rfl, hR.same hp, Fr.refl _ w⟩
  have e1 : Im.dstMore x = x / 2 - 1 := by unfold Im.dstMore; rw [if_neg h2]
  have e2 : Im.dstBase x = 1 + (2 + x % 2) * 2 ^ (x / 2 - 1) := by unfold Im.dstBase; rw [if_neg h2]
  rw [e1, e2]
  by_cases hb : pos + (x / 2 - 1) ≤ 8 * r.s.size
  · rw [if_pos hb]; exact distance_big R x r pos w hR hp (by omega) hs (by omega) (by omega) hb
  · rw [if_neg hb]; exact distance_short R x r pos w hR hp (by omega) hs (by omega) (by omega) (by omega)
end Go.Proofs.Ytcjcmlnbchmnnaa
