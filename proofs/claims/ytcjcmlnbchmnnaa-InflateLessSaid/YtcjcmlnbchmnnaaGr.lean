/- What a call of a Reader's may have changed: its own cells, and rows of bytes from a block on (no program in sight). -/
import Derived.Test.YtcjcmlnbchmnnaaRd
import Derived.Test.YtcjcmlnbchmnnaaBytes
import Derived.Test.YtcjcmlnbchmnnaaOwn
namespace Go.Proofs.Ytcjcmlnbchmnnaa
open Go.RowKit

def ByteRow (w : World) (k : Nat) : Prop := ∃ cur, w.heap[k]? = some (.cells cur 5 (0, 0))
def Grew (R B : Nat) (w w' : World) : Prop := Fr (fun k => k = R ∨ (B ≤ k ∧ ByteRow w k)) w w'
theorem Grew.refl (R B : Nat) (w : World) : Grew R B w w := Fr.refl _ w
theorem Grew.of_fr {R B : Nat} {w w' : World} (h : Fr (· = R) w w') : Grew R B w w' := h.mono fun _ _ e => Or.inl e
theorem Grew.trans {R B : Nat} {a b c : World} (h : Grew R B a b) (k : Grew R B b c) : Grew R B a c := by
  refine ⟨k.os.trans h.os, k.tape.trans h.tape, k.output.trans h.output, Nat.le_trans h.size k.size, fun i hi hn => ?_, fun i q => k.rd i (h.rd i q)⟩
  have e := h.block i hi hn
  refine (k.block i (Nat.lt_of_lt_of_le hi h.size) ?_).trans e
  rintro (q | ⟨q, cur, hc⟩)
  · exact hn (Or.inl q)
  · exact hn (Or.inr ⟨q, cur, by rw [← e]; exact hc⟩)
theorem Grew.then_fr {R B : Nat} {a b c : World} (h : Grew R B a b) (k : Fr (· = R) b c) : Grew R B a c := h.trans (Grew.of_fr k)
/-- from the block on all is new: only the Reader has changed -/
theorem Grew.fr {R : Nat} {w w' : World} (h : Grew R w.heap.size w w') : Fr (· = R) w w' := h.mono fun k hk q => q.elim id fun q => by omega
theorem TableAt.grew {R B : Nat} {w w' : World} {T : Nat} {ns : List Nat} {r : Rd} (h : TableAt w T ns) (hR : RdAt w R r) (hg : Grew R B w w') : TableAt w' T ns := by
  obtain ⟨M, n, hcT, D, ⟨es, clock, q1, q2⟩, q3⟩ := h
  refine ⟨M, n, ?_, D, ⟨es, clock, ?_, q2⟩, q3⟩
  · rw [hg.block T (lt_of_block hcT)]
    · exact hcT
    · rintro (rfl | ⟨_, cur, hc⟩)
      · unfold RdAt at hR; rw [hcT] at hR; cases hR
      · rw [hcT] at hc; cases hc
  · rw [hg.block M (lt_of_block q1)]
    · exact q1
    · rintro (rfl | ⟨_, cur, hc⟩)
      · unfold RdAt at hR; rw [q1] at hR; cases hR
      · rw [q1] at hc; cases hc
theorem TableAt.fr {R : Nat} {w w' : World} {T : Nat} {ns : List Nat} {r : Rd} (h : TableAt w T ns) (hR : RdAt w R r) (hg : Fr (· = R) w w') : TableAt w' T ns := h.grew hR (Grew.of_fr (B := 0) hg)

/-- bytes that are owned from a block on -/
def OutAt (w : World) (B : Nat) (v : Value) (l : List UInt8) : Prop := w.ownsRow B 5 1 v l.length (bvals l)
theorem OutAt.nil (w : World) (B : Nat) : OutAt w B (.slice none 0 0) [] := World.ownsRow_nil w B _ 1
theorem OutAt.slice {w : World} {B : Nat} {v : Value} {l : List UInt8} (h : OutAt w B v l) : ∃ a0 cap, v = .slice a0 l.length cap ∧ (a0 = none ∧ l = [] ∨ ∃ g, a0 = some ⟨g, 0, none⟩) := by
  rcases h.2 with ⟨rfl, e⟩ | ⟨g, cap, cur, rfl, _⟩
  · exact ⟨none, 0, by rw [e], Or.inl ⟨rfl, List.eq_nil_of_length_eq_zero e⟩⟩
  · exact ⟨_, _, rfl, Or.inr ⟨g, rfl⟩⟩
theorem OutAt.row {w : World} {B : Nat} {v : Value} {l : List UInt8} (h : OutAt w B v l) (k : Nat) (hk : v.ownBlock = some k) : B ≤ k ∧ ByteRow w k := by
  rcases h.2 with ⟨rfl, _⟩ | ⟨g, cap, cur, rfl, hb, hg, _⟩
  · simp [Value.ownBlock] at hk
  · simp [Value.ownBlock] at hk; subst hk; exact ⟨hb, cur, hg⟩
theorem OutAt.kept {w w' : World} {B : Nat} {v : Value} {l : List UInt8} (h : OutAt w B v l) (hb : ∀ g, ByteRow w g → w'.heap[g]? = w.heap[g]?) : OutAt w' B v l := by
  refine ⟨h.1, ?_⟩
  rcases h.2 with hn | ⟨g, cap, cur, rfl, h1, hg, rest⟩
  · exact .inl hn
  · exact .inr ⟨g, cap, cur, rfl, h1, by rw [hb g ⟨cur, hg⟩]; exact hg, rest⟩
theorem OutAt.fr {R : Nat} {r : Rd} {w w' : World} {B : Nat} {v : Value} {l : List UInt8} (h : OutAt w B v l) (hR : RdAt w R r) (hf : Fr (· = R) w w') : OutAt w' B v l :=
  h.kept fun g ⟨_, hg⟩ => hf.block g (lt_of_block hg) (by rintro rfl; unfold RdAt at hR; rw [hg] at hR; cases hR)
theorem OutAt.below {w w' : World} {B : Nat} {v : Value} {l : List UInt8} (h : OutAt w B v l) (hb : Below w.heap.size w w') : OutAt w' B v l :=
  h.kept fun g ⟨_, hg⟩ => hb.block g (lt_of_block hg)
theorem RdAt.grown {w w' : World} {R : Nat} {r : Rd} {B : Nat} {v : Value} {l : List UInt8} (hR : RdAt w R r) (h : OutAt w B v l) (g : w.grownBy w' v.ownBlock) : RdAt w' R r := by
  unfold RdAt
  rw [g.block R hR.lt]
  · exact hR
  · intro e
    obtain ⟨_, cur, hc⟩ := h.row R e.symm
    unfold RdAt at hR; rw [hc] at hR; cases hR
theorem Grew.grown {R B : Nat} {w w1 w' : World} {v : Value} {l : List UInt8} (hg : Grew R B w w1) (h : OutAt w1 B v l) (g : w1.grownBy w' v.ownBlock) : Grew R B w w' := by
  refine hg.trans ⟨g.os, g.tape, g.output, g.size, fun k hk hn => g.block k hk fun e => hn (Or.inr (h.row k e.symm)), fun k q => q.of_block (g.block k q.lt fun e => ?_)⟩
  obtain ⟨_, cur, hc⟩ := h.row k e.symm
  obtain ⟨c, h1, _⟩ := q
  rw [hc] at h1
  injection h1 with h1
  injection h1 with _ q
  exact absurd q (by decide)
end Go.Proofs.Ytcjcmlnbchmnnaa
