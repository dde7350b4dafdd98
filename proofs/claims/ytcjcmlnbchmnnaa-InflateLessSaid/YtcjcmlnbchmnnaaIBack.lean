/- Bytes appended to a row that is owned: the source nil, empty or not; the last of some bytes. -/
import Derived.Test.YtcjcmlnbchmnnaaIAhead
import Derived.Test.YtcjcmlnbchmnnaaRegs
import Derived.Maps.AppendAt
namespace Go.Proofs.Ytcjcmlnbchmnnaa
open Go.RowKit

/-- a slice that reads as these bytes -/
def ReadB (w : World) (x : Value) (m : List UInt8) : Prop :=
  ∃ ao c, x = .slice ao m.length c ∧ (ao = none ∧ m = [] ∨ ∃ g off, ao = some ⟨g, off, none⟩ ∧ ∀ k (h : k < m.length), w.cell? ⟨g, off + k, none⟩ = some (.int .u8 (m[k].toNat : Int)))
theorem OutAt.cellAt' {w : World} {B : Nat} {g n cap : Nat} {l : List UInt8} (h : OutAt w B (.slice (some ⟨g, 0, none⟩) n cap) l) (k : Nat) (hk : k < l.length) : w.cell? ⟨g, k, none⟩ = some (.int .u8 (l[k].toNat : Int)) := by
  have hn : n = l.length := by rcases h.2 with ⟨e, _⟩ | ⟨_, _, _, e, _⟩ <;> cases e; rfl
  subst hn
  unfold OutAt at h
  rw [h.cellAt k (by omega), bvals_get l k hk]
theorem OutAt.reads {w : World} {B : Nat} {v : Value} {l : List UInt8} (h : OutAt w B v l) : ReadB w v l := by
  obtain ⟨a0, cap, rfl, ⟨rfl, rfl⟩ | ⟨g, rfl⟩⟩ := h.slice
  · exact ⟨none, cap, rfl, .inl ⟨rfl, rfl⟩⟩
  · exact ⟨_, cap, rfl, .inr ⟨g, 0, rfl, fun k hk => by rw [Nat.zero_add]; exact h.cellAt' k hk⟩⟩
/-- what stands behind the first ones -/
theorem OutAt.reads_drop {w : World} {B g n cap : Nat} {l : List UInt8} (h : OutAt w B (.slice (some ⟨g, 0, none⟩) n cap) l) (k : Nat) (hk : k ≤ l.length) (c : Nat) (off : Nat) (ho : off = k ∨ k = l.length) : ReadB w (.slice (some ⟨g, off, none⟩) (l.length - k) c) (l.drop k) := by
  refine ⟨_, c, by rw [List.length_drop], .inr ⟨g, off, rfl, fun j hj => ?_⟩⟩
  rw [List.length_drop] at hj
  rcases ho with rfl | e
  · rw [h.cellAt' (off + j) (by omega), List.getElem_drop]
  · omega
/-- nothing behind a row: the row -/
theorem append_nothing {P : Program} {w : World} {T ty e : TypeId} {i : TypeInfo} (hT : P.underlying T = some (.slice e)) (hi : P.info? e = some i) {base size n : Nat} {v : Value} {xs : List Value} (h : w.ownsRow base e size v n xs) (c : Nat) :
    (Builtin.append_ #[T, T] ty #[v, .slice none 0 c]).run P w = .ok v w := by
  rcases h.2 with ⟨e1, e2⟩ | ⟨g, cap, cur, e1, _, _, hn, _⟩
  · subst e1 e2
    simp [Builtin.append_, run_underlying hT, sizeOf, typeInfo, hi, Builtin.lenOf, Builtin.firstCells]
  · subst e1
    simp [Builtin.append_, run_underlying hT, sizeOf, typeInfo, hi, Builtin.lenOf, Builtin.firstCells, hn, storeCells]
theorem append_bytes {w : World} {b0 : Nat} {v x : Value} {l m : List UInt8} (T ty : TypeId) (hT : Try.prog.underlying T = some (.slice 5)) (hown : OutAt w b0 v l) (hx : ReadB w x m) (hlen : l.length + m.length ≤ 140737488355328) (hb : b0 ≤ w.heap.size) :
    ∃ v' w', (Builtin.append_ #[T, T] ty #[v, x]).run Try.prog w = .ok v' w' ∧ OutAt w' b0 v' (l ++ m) ∧ w.grownBy w' v.ownBlock ∧ (v'.ownBlock = v.ownBlock ∨ v'.ownBlock = some w.heap.size) := by
  obtain ⟨i0, hi, hz0, hz1, hz2⟩ := info_parts info_u8
  obtain ⟨ao, c, rfl, ⟨rfl, rfl⟩ | ⟨g, off, rfl, hc⟩⟩ := hx
  · exact ⟨v, w, append_nothing hT hi hown c, by rw [List.append_nil]; exact hown, World.grownBy.refl w _, .inl rfl⟩
  · have hcells : ∀ j u, (bvals m)[j]? = some u → w.cell? ((⟨g, off, none⟩ : Addr).add j) = some u := by
      intro j u hj
      have hlt : j < m.length := by have := (List.getElem?_eq_some_iff.1 hj).1; rwa [bvals_length] at this
      have e : ((⟨g, off, none⟩ : Addr).add j) = ⟨g, off + j, none⟩ := by simp only [Addr.add]; split <;> simp_all
      rw [e, hc j hlt, ← bvals_get m j hlt, hj]
    obtain ⟨v', w', h1, h2, h3, _, h5⟩ := run_append_own_at (P := Try.prog) w b0 T ty 5 i0 (.int .u8 0) 1 1 hT hi hz0 hz1 hz2 rfl (by decide) v l.length (bvals l) hown ⟨g, off, none⟩ m.length c (bvals m) (by rw [bvals_length, Nat.mul_one]) hcells (bvals_one' m) (by unfold maxLen; omega) (by omega) hb
    exact ⟨v', w', h1, by unfold OutAt; rw [bvals_append, List.length_append]; exact h2, h3, h5⟩
theorem step_append_bytes {ops : Array Oper} {o : Oper} {a : Act} {w : World} {K : Act → World → Prop} {Q : Exit → Act → World → Prop} {E : Prop}
    (hg : o.guard = none) (s x : Operand) (T : TypeId) (hop : o.op = Op.call { callee := Callee.builtin Builtin.append, args := #[s, x], argTypes := #[T, T] })
    (hT : Try.prog.underlying T = some (.slice 5)) (b0 : Nat) (v xv : Value) (l m : List UInt8) (hs : a.eval s = v) (hxv : a.eval x = xv) (hown : OutAt w b0 v l) (hx : ReadB w xv m) (hlen : l.length + m.length ≤ 140737488355328) (hb : b0 ≤ w.heap.size)
    (hK : ∀ v' w', OutAt w' b0 v' (l ++ m) → w.grownBy w' v.ownBlock → (v'.ownBlock = v.ownBlock ∨ v'.ownBlock = some w.heap.size) → K (a.put o.dst v') w') :
    if Region.wanted o (yielded ops a.tmps) = true then Oper.wp Try.prog o a w K Q else E := by
  have hw : Region.wanted o (yielded ops a.tmps) = true := by simp [Region.wanted, hg]
  rw [if_pos hw]
  obtain ⟨v', w', hrun, r1, r2, r3⟩ := append_bytes T o.type hT hown hx hlen hb
  unfold Oper.wp
  simp [execOp, hop, resolve, invoke, builtin, hs, hxv, hrun, Result.andThen]
  exact hK v' w' r1 r2 r3
end Go.Proofs.Ytcjcmlnbchmnnaa
