/- A Reader that has come to a state of the model: how it lies in memory. · bits, symbol, length, distance: their contracts by the model. -/
import Derived.Test.YtcjcmlnbchmnnaaIAhead
import Derived.Test.YtcjcmlnbchmnnaaISymbol
import Derived.Test.YtcjcmlnbchmnnaaILens
import Derived.Test.YtcjcmlnbchmnnaaITable
import Derived.Test.YtcjcmlnbchmnnaaPl
/-! ### ISt -/
namespace Go.Proofs.Ytcjcmlnbchmnnaa
open Go.RowKit

/-- the last of some bytes -/
def lastN (n : Nat) (l : List UInt8) : List UInt8 := l.drop (l.length - n)
/-- the table that a pointer leads to -/
def TabAt (w : World) (v : Value) (ns : List Nat) : Prop := ∃ T, v = .pointer (some ⟨T, 0, none⟩) ∧ TableAt w T ns ∧ Hm.Short ns ∧ ns.length ≤ 288
/-- the Reader r in block R, of which tb was told by earlier calls, is in the model's state a -/
structure StAt (w : World) (R B : Nat) (r : Rd) (tb : List UInt8) (most : Nat) (a : Im.St) : Prop where
  at_ : RdAt w R r
  bit : r.bit = (a.pos : Int)
  state : r.state = (a.state : Int)
  last : r.last = a.last
  left : r.left = (a.left : Int)
  told : r.told = (tb.length : Int)
  most_ : r.most = (most : Int)
  e : r.e = 0
  out : ∃ o, a.out = tb ++ o ∧ OutAt w B r.out o
  back : BackAt w B r.back (lastN 32768 tb)
  tabs : a.state = 2 → TabAt w r.lit a.lit ∧ TabAt w r.dist a.dist
  base : B ≤ w.heap.size
  pos_le : a.pos ≤ 8 * r.s.size
  size_le : r.s.size ≤ 281474976710656
  out_le : a.out.length ≤ most
  most_le : most ≤ 140737488355328
  left_le : a.left ≤ 65535
  state_le : a.state ≤ 3
theorem TabAt.grew {w w' : World} {R B : Nat} {r : Rd} {v : Value} {ns : List Nat} (h : TabAt w v ns) (hR : RdAt w R r) (hg : Grew R B w w') : TabAt w' v ns := by
  obtain ⟨T, h1, h2, h3⟩ := h
  exact ⟨T, h1, h2.grew hR hg, h3⟩
/-- the world has changed in the Reader's own cells alone: its pointers and rows lead to the same -/
theorem StAt.outs {w w' : World} {R B : Nat} {r : Rd} {tb : List UInt8} {most : Nat} {a : Im.St} (h : StAt w R B r tb most a) (hf : Fr (· = R) w w') :
    (∃ o, a.out = tb ++ o ∧ OutAt w' B r.out o) ∧ BackAt w' B r.back (lastN 32768 tb) ∧ (a.state = 2 → TabAt w' r.lit a.lit ∧ TabAt w' r.dist a.dist) ∧ B ≤ w'.heap.size := by
  obtain ⟨o, h1, h2⟩ := h.out
  refine ⟨⟨o, h1, h2.fr h.at_ hf⟩, h.back.fr h.at_ hf, fun e => ?_, Nat.le_trans h.base hf.size⟩
  obtain ⟨t1, t2⟩ := h.tabs e
  exact ⟨t1.grew h.at_ (Grew.of_fr (B := B) hf), t2.grew h.at_ (Grew.of_fr (B := B) hf)⟩
end Go.Proofs.Ytcjcmlnbchmnnaa
/-! ### ICalls -/
namespace Go.Proofs.Ytcjcmlnbchmnnaa
open Go.RowKit

theorem blen (s : ByteArray) : s.data.toList.length = s.size := Array.length_toList
theorem num_zero (s : List UInt8) (pos : Nat) : Im.num s pos 0 = 0 := rfl
theorem RdAt.same {w : World} {R : Nat} {r : Rd} {pos : Nat} (h : RdAt w R r) (hp : r.bit = (pos : Int)) : RdAt w R { r with bit := (pos : Int) } := by
  rw [← hp]; exact h
/-- the Reader's bit moves, or it stops -/
def Moves (R : Nat) (r : Rd) (w : World) (x : Except Int (Nat × Nat)) (o : Ending) (w' : World) : Prop :=
  match x with
  | .ok (n, p) => o = .returned (.int .i64 (n : Int)) ∧ RdAt w' R { r with bit := (p : Int) } ∧ Fr (· = R) w w'
  | .error e => o = stopped e ∧ Fr (· = R) w w'
theorem bits_moves (R : Nat) (r : Rd) (pos n : Nat) (w : World) (hR : RdAt w R r) (hp : r.bit = pos) (hn : n ≤ 16) (hpos : pos ≤ 8 * r.s.size) (hs : r.s.size ≤ 281474976710656) :
    Calls Try.prog 57 #[.pointer (some ⟨R, 0, none⟩), .int .i64 n] w (Moves R r w (Im.bitsP r.s.data.toList pos n)) := by
  unfold Im.bitsP
  rw [blen]
  by_cases h : pos + n ≤ 8 * r.s.size
  · rw [if_pos h]; exact bits_yes R r pos n w hR hp hn (by omega) hs h
  · rw [if_neg h]; exact bits_no R r pos n w hR hp hn (by omega) hs (by omega)
theorem symbol_moves (R T : Nat) (ns : List Nat) (r : Rd) (pos : Nat) (w : World) (hR : RdAt w R r) (hT : TableAt w T ns) (hsh : Hm.Short ns) (hp : r.bit = pos) (hpos : pos ≤ 8 * r.s.size) (hs : r.s.size ≤ 281474976710656) :
    Calls Try.prog 75 #[.pointer (some ⟨R, 0, none⟩), .pointer (some ⟨T, 0, none⟩)] w (Moves R r w (Im.symP ns r.s.data.toList pos)) := by
  cases h : Im.symP ns r.s.data.toList pos with
  | ok v =>
    obtain ⟨x, p⟩ := v
    obtain ⟨_, _, _, h4⟩ := Im.symP_ok h
    exact symbol_yes R T ns r pos x p w hR hT hsh hp (by omega) hs h4
  | error e =>
    obtain ⟨x, nx, c, h1, h2, rfl⟩ := Im.symP_err h
    exact symbol_no R T ns r pos x nx c w hR hT hsh hp (by omega) hs h1 h2
theorem length_moves (R x : Nat) (r : Rd) (pos : Nat) (w : World) (hR : RdAt w R r) (hp : r.bit = pos) (hpos : pos ≤ 8 * r.s.size) (hs : r.s.size ≤ 281474976710656) (hx : 256 < x) (hx2 : x ≤ 65535) :
    Calls Try.prog 76 #[.pointer (some ⟨R, 0, none⟩), .int .i64 (x : Int)] w (Moves R r w (Im.lenP r.s.data.toList x pos)) := by
  unfold Im.lenP
  rw [blen]
  by_cases h : 285 < x
  · rw [if_pos h]
    refine (length_no R x w h hx2).mono ?_
    rintro o w' ⟨rfl, rfl⟩
    exact ⟨rfl, Fr.refl _ w⟩
  rw [if_neg h]
  by_cases h1 : x = 285
  · subst h1
    have e1 : Im.lenMore 285 = 0 := rfl
    have e2 : Im.lenBase 285 = 258 := rfl
    rw [e1, e2, if_pos (by omega), num_zero, Nat.add_zero, Nat.add_zero]
    refine (length_last R w).mono ?_
    rintro o w' ⟨rfl, rfl⟩
    exact ⟨rfl, hR.same hp, Fr.refl _ w⟩
  by_cases h2 : x < 265
  · have e1 : Im.lenMore x = 0 := by unfold Im.lenMore; rw [if_neg h1, if_pos h2]
    have e2 : Im.lenBase x = x - 254 := by unfold Im.lenBase; rw [if_neg h1, if_pos h2]
    rw [e1, e2, if_pos (by omega), num_zero, Nat.add_zero, Nat.add_zero]
    refine (length_small R x w hx h2).mono ?_
    rintro o w' ⟨rfl, rfl⟩
    exact ⟨rfl, hR.same hp, Fr.refl _ w⟩
  have e1 : Im.lenMore x = (x - 261) / 4 := by unfold Im.lenMore; rw [if_neg h1, if_neg h2]
  have e2 : Im.lenBase x = 3 + (4 + (x - 265) % 4) * 2 ^ ((x - 261) / 4) := by unfold Im.lenBase; rw [if_neg h1, if_neg h2]
  rw [e1, e2]
  by_cases hb : pos + (x - 261) / 4 ≤ 8 * r.s.size
  · rw [if_pos hb]; exact length_big R x r pos w hR hp (by omega) hs (by omega) (by omega) hb
  · rw [if_neg hb]; exact length_short R x r pos w hR hp (by omega) hs (by omega) (by omega) (by omega)
theorem distance_moves (R x : Nat) (r : Rd) (pos : Nat) (w : World) (hR : RdAt w R r) (hp : r.bit = pos) (hpos : pos ≤ 8 * r.s.size) (hs : r.s.size ≤ 281474976710656) (hx2 : x ≤ 65535) :
    Calls Try.prog 77 #[.pointer (some ⟨R, 0, none⟩), .int .i64 (x : Int)] w (Moves R r w (Im.dstP r.s.data.toList x pos)) := by
  unfold Im.dstP
  rw [blen]
  by_cases h : 29 < x
  · rw [if_pos h]
    refine (distance_no R x w h hx2).mono ?_
    rintro o w' ⟨rfl, rfl⟩
    exact ⟨rfl, Fr.refl _ w⟩
  rw [if_neg h]
  by_cases h2 : x < 4
  · have e1 : Im.dstMore x = 0 := by unfold Im.dstMore; rw [if_pos h2]
    have e2 : Im.dstBase x = x + 1 := by unfold Im.dstBase; rw [if_pos h2]
    rw [e1, e2, if_pos (by omega), num_zero, Nat.add_zero, Nat.add_zero]
    refine (distance_small R x w h2).mono ?_
    rintro o w' ⟨rfl, rfl⟩
    exact ⟨rfl, hR.same hp, Fr.refl _ w⟩
  have e1 : Im.dstMore x = x / 2 - 1 := by unfold Im.dstMore; rw [if_neg h2]
  have e2 : Im.dstBase x = 1 + (2 + x % 2) * 2 ^ (x / 2 - 1) := by unfold Im.dstBase; rw [if_neg h2]
  rw [e1, e2]
  by_cases hb : pos + (x / 2 - 1) ≤ 8 * r.s.size
  · rw [if_pos hb]; exact distance_big R x r pos w hR hp (by omega) hs (by omega) (by omega) hb
  · rw [if_neg hb]; exact distance_short R x r pos w hR hp (by omega) hs (by omega) (by omega) (by omega)
end Go.Proofs.Ytcjcmlnbchmnnaa
