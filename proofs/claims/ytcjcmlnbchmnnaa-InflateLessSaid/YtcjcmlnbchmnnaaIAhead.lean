/- (*inflate.Reader).ahead: its contract. -/
import Derived.Test.YtcjcmlnbchmnnaaITell
namespace Go.Proofs.Ytcjcmlnbchmnnaa
open Go.RowKit

/-- bytes that lie below a block -/
def BackAt (w : World) (B : Nat) (v : Value) (l : List UInt8) : Prop := OutAt w 0 v l ∧ ∀ k, v.ownBlock = some k → k < B
theorem BackAt.fr {R : Nat} {r : Rd} {w w' : World} {B : Nat} {v : Value} {l : List UInt8} (h : BackAt w B v l) (hR : RdAt w R r) (hf : Fr (· = R) w w') : BackAt w' B v l := ⟨h.1.fr hR hf, h.2⟩
theorem BackAt.grew {R : Nat} {r : Rd} {w w' : World} {B : Nat} {v : Value} {l : List UInt8} (h : BackAt w B v l) (hR : RdAt w R r) (hg : Grew R B w w') : BackAt w' B v l := by
  refine ⟨⟨h.1.1, ?_⟩, h.2⟩
  rcases h.1.2 with hn | ⟨g, cap, cur, hv, h1, hc, rest⟩
  · exact .inl hn
  · have hk : g < B := h.2 g (by rw [hv]; rfl)
    refine .inr ⟨g, cap, cur, hv, h1, ?_, rest⟩
    rw [hg.block g (lt_of_block hc)]
    · exact hc
    · rintro (rfl | ⟨q, _⟩)
      · unfold RdAt at hR; rw [hc] at hR; cases hR
      · omega
theorem OutAt.at {w : World} {B : Nat} {v : Value} {l : List UInt8} (h : OutAt w B v l) (k : Nat) (hk : k < l.length) :
    ∃ g cap, v = .slice (some ⟨g, 0, none⟩) l.length cap ∧ w.cell? ⟨g, k, none⟩ = some (.int .u8 ((l[k]).toNat : Int)) := by
  have h0 := h
  rcases h.2 with ⟨_, e⟩ | ⟨g, cap, cur, rfl, _⟩
  · omega
  · obtain ⟨c, h1, h2⟩ := cell_own (l := l) h0 k hk
    rw [List.getElem?_eq_getElem hk] at h1
    cases h1
    exact ⟨g, cap, rfl, h2⟩

set_option maxRecDepth 100000 in
set_option maxHeartbeats 1000000 in
theorem ahead_near (R B d : Nat) (r : Rd) (l : List UInt8) (w : World) (hR : RdAt w R r) (ho : OutAt w B r.out l) (hd : 1 ≤ d) (h : d ≤ l.length) (hl : l.length ≤ 281474976710656) :
    Calls Try.prog 78 #[.pointer (some ⟨R, 0, none⟩), .int .i64 (d : Int)] w fun o w' => o = .returned (.int .u8 ((l[l.length - d]'(by omega)).toNat : Int)) ∧ Below w.heap.size w w' := by
  obtain ⟨g, cap, e, hc⟩ := ho.at (l.length - d) (by omega)
  have c8 := hR.out
  rw [e] at c8
  generalize l[l.length - d].toNat = b at *
  have q1 : decide ((d : Int) ≤ (l.length : Int)) = true := by simp; omega
  have q2 : decide (d ≤ l.length) = true := by simp; omega
  have a1 : IntKind.i64.wrap ((l.length : Int) - (d : Int)) = ((l.length - d : Nat) : Int) := by rw [IntWalk.i64_in _ (by omega)]; omega
  have a2 : l.length - d < l.length := by omega
  clear hR ho e hl h
  generalize l.length - d = k at *
  generalize l.length = n at *
  have a3 : (k : Int) < (n : Int) := by omega
  go_enter Try.func78, Try.ntmps78
  go_wp2
  go_quiet (fail)
  go_wp2
  go_ret
  exact ⟨rfl, below_drewN (Below.refl w.heap.size w) nq⟩

set_option maxRecDepth 100000 in
set_option maxHeartbeats 1000000 in
theorem ahead_far (R B B' d : Nat) (r : Rd) (l m : List UInt8) (w : World) (hR : RdAt w R r) (ho : OutAt w B r.out l) (hb : OutAt w B' r.back m) (hd : l.length < d) (h : d ≤ m.length + l.length) (hl : l.length ≤ 281474976710656) (hm : m.length ≤ 281474976710656) :
    Calls Try.prog 78 #[.pointer (some ⟨R, 0, none⟩), .int .i64 (d : Int)] w fun o w' => o = .returned (.int .u8 ((m[m.length + l.length - d]'(by omega)).toNat : Int)) ∧ Below w.heap.size w w' := by
  obtain ⟨g, cap, e, hc⟩ := hb.at (m.length + l.length - d) (by omega)
  obtain ⟨a0, cap0, e0, _⟩ := ho.slice
  have c8 := hR.out
  rw [e0] at c8
  have c7 := hR.back
  rw [e] at c7
  generalize m[m.length + l.length - d].toNat = b at *
  have q1 : decide ((d : Int) ≤ (l.length : Int)) = false := by simp; omega
  have q2 : decide (d ≤ l.length) = false := by simp; omega
  have a0' : IntKind.i64.wrap ((m.length : Int) + (l.length : Int)) = (m.length : Int) + (l.length : Int) := IntWalk.i64_in _ (by omega)
  have a1 : IntKind.i64.wrap ((m.length : Int) + (l.length : Int) - (d : Int)) = ((m.length + l.length - d : Nat) : Int) := by rw [IntWalk.i64_in _ (by omega)]; omega
  have a2 : m.length + l.length - d < m.length := by omega
  clear hR ho hb e e0 hl h hd
  generalize m.length + l.length - d = k at *
  generalize l.length = n at *
  generalize m.length = n' at *
  have a3 : (k : Int) < (n' : Int) := by omega
  go_enter Try.func78, Try.ntmps78
  go_wp2
  go_quiet (fail)
  go_wp2
  go_ret
  exact ⟨rfl, below_drewN (Below.refl w.heap.size w) nq⟩
end Go.Proofs.Ytcjcmlnbchmnnaa
