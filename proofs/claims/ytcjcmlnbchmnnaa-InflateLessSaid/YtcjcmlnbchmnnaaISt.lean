/- A Reader that has come to a state of the model: how it lies in memory. -/
import Derived.Test.YtcjcmlnbchmnnaaIAhead
import Derived.Test.YtcjcmlnbchmnnaaISymbol
import Derived.Test.YtcjcmlnbchmnnaaILens
import Derived.Test.YtcjcmlnbchmnnaaITable
import Derived.Test.YtcjcmlnbchmnnaaImRead
namespace Go.Proofs.Ytcjcmlnbchmnnaa
open Go.RowKit

/-- the last of some bytes -/
def lastN (n : Nat) (l : List UInt8) : List UInt8 := l.drop (l.length - n)
/-- the table that a pointer leads to -/
def TabAt (w : World) (v : Value) (ns : List Nat) : Prop := ∃ T, v = .pointer (some ⟨T, 0, none⟩) ∧ TableAt w T ns ∧ Hm.Short ns ∧ ns.length ≤ 288
/-- the Reader r in block R, of which tb was told by earlier calls, is in the model's state a -/
structure StAt (w : World) (R B : Nat) (r : Rd) (tb : List UInt8) (most : Nat) (a : Im.St) : Prop where
  at_ : RdAt w R r
  bit : r.bit = (a.pos : Int)
  state : r.state = (a.state : Int)
  last : r.last = a.last
  left : r.left = (a.left : Int)
  told : r.told = (tb.length : Int)
  most_ : r.most = (most : Int)
  e : r.e = 0
  out : ∃ o, a.out = tb ++ o ∧ OutAt w B r.out o
  back : BackAt w B r.back (lastN 32768 tb)
  tabs : a.state = 2 → TabAt w r.lit a.lit ∧ TabAt w r.dist a.dist
  base : B ≤ w.heap.size
  pos_le : a.pos ≤ 8 * r.s.size
  size_le : r.s.size ≤ 281474976710656
  out_le : a.out.length ≤ most
  most_le : most ≤ 140737488355328
  left_le : a.left ≤ 65535
  state_le : a.state ≤ 3
theorem TabAt.grew {w w' : World} {R B : Nat} {r : Rd} {v : Value} {ns : List Nat} (h : TabAt w v ns) (hR : RdAt w R r) (hg : Grew R B w w') : TabAt w' v ns := by
  obtain ⟨T, h1, h2, h3⟩ := h
  exact ⟨T, h1, h2.grew hR hg, h3⟩
/-- the world has changed in the Reader's own cells alone: its pointers and rows lead to the same -/
theorem StAt.outs {w w' : World} {R B : Nat} {r : Rd} {tb : List UInt8} {most : Nat} {a : Im.St} (h : StAt w R B r tb most a) (hf : Fr (· = R) w w') :
    (∃ o, a.out = tb ++ o ∧ OutAt w' B r.out o) ∧ BackAt w' B r.back (lastN 32768 tb) ∧ (a.state = 2 → TabAt w' r.lit a.lit ∧ TabAt w' r.dist a.dist) ∧ B ≤ w'.heap.size := by
  obtain ⟨o, h1, h2⟩ := h.out
  refine ⟨⟨o, h1, h2.fr h.at_ hf⟩, h.back.fr h.at_ hf, fun e => ?_, Nat.le_trans h.base hf.size⟩
  obtain ⟨t1, t2⟩ := h.tabs e
  exact ⟨t1.grew h.at_ (Grew.of_fr (B := B) hf), t2.grew h.at_ (Grew.of_fr (B := B) hf)⟩
end Go.Proofs.Ytcjcmlnbchmnnaa
