/- Plain mathematics of layer 10: what bytes say as a gzip member, all of it (no program in sight). -/
import Derived.Test.YtcjcmlnbchmnnaaGz
import Derived.Test.YtcjcmlnbchmnnaaImE
namespace Go.Proofs.Ytcjcmlnbchmnnaa.Gz

/-! all of it -/
/-- what a reader tells of bytes behind a head, by a run of inflate's -/
def behind (s : List UInt8) (p : Nat) (c : Im.St) (f : Int) : List UInt8 × Int × Option Nat :=
  if f ≠ 0 then ([], f, none) else if c.state ≠ 3 then (c.out, 0, none)
  else if (tailP s (p + c.pos / 8) c.out).1 = 0 then (c.out, tailP s (p + c.pos / 8) c.out) else ([], tailP s (p + c.pos / 8) c.out)
/-- what bytes say: what is told, the error, how many bytes there are if it has ended -/
def GRun (s : List UInt8) (most : Nat) (r : List UInt8 × Int × Option Nat) : Prop :=
  (magP s = .more ∧ r = ([], 0, none)) ∨ (∃ e, magP s = .bad e ∧ r = ([], e, none)) ∨
  (∃ p c f, magP s = .ok p ∧ Im.Run (s.drop p) most Im.start c f ∧ r = behind s p c f)
theorem GRun.det {s : List UInt8} {most : Nat} {r r' : List UInt8 × Int × Option Nat} (h : GRun s most r) (k : GRun s most r') : r = r' := by
  rcases h with ⟨h1, rfl⟩ | ⟨e, h1, rfl⟩ | ⟨p, c, f, h1, h2, rfl⟩ <;> rcases k with ⟨k1, rfl⟩ | ⟨e', k1, rfl⟩ | ⟨p', c', f', k1, k2, rfl⟩ <;> rw [h1] at k1 <;> try cases k1
  · rfl
  · obtain ⟨rfl, rfl⟩ := h2.det k2; rfl
end Go.Proofs.Ytcjcmlnbchmnnaa.Gz
