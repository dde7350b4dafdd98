/- (*inflate.Reader).ahead: its contract. · Bytes appended to a row that is owned: the source nil, empty or not; the last of some bytes. -/
import Derived.Test.YtcjcmlnbchmnnaaITell
import Derived.Test.YtcjcmlnbchmnnaaFr
import Derived.Maps.AppendAt
/-! ### IAhead -/
namespace Go.Proofs.Ytcjcmlnbchmnnaa
open Go.RowKit

/-- bytes that lie below a block -/
def BackAt (w : World) (B : Nat) (v : Value) (l : List UInt8) : Prop := OutAt w 0 v l ∧ ∀ k, v.ownBlock = some k → k < B
theorem BackAt.fr {R : Nat} {r : Rd} {w w' : World} {B : Nat} {v : Value} {l : List UInt8} (h : BackAt w B v l) (hR : RdAt w R r) (hf : Fr (· = R) w w') : BackAt w' B v l := ⟨h.1.fr hR hf, h.2⟩
theorem BackAt.grew {R : Nat} {r : Rd} {w w' : World} {B : Nat} {v : Value} {l : List UInt8} (h : BackAt w B v l) (hR : RdAt w R r) (hg : Grew R B w w') : BackAt w' B v l := by
  refine ⟨⟨h.1.1, ?_⟩, h.2⟩
  rcases h.1.2 with hn | ⟨g, cap, cur, hv, h1, hc, rest⟩
  · exact .inl hn
  · have hk : g < B := h.2 g (by rw [hv]; rfl)
    refine .inr ⟨g, cap, cur, hv, h1, ?_, rest⟩
    rw [hg.block g (lt_of_block hc)]
    · exact hc
    · rintro (rfl | ⟨q, _⟩)
      · unfold RdAt at hR; rw [hc] at hR; cases hR
      · omega
theorem OutAt.at {w : World} {B : Nat} {v : Value} {l : List UInt8} (h : OutAt w B v l) (k : Nat) (hk : k < l.length) :
    ∃ g cap, v = .slice (some ⟨g, 0, none⟩) l.length cap ∧ w.cell? ⟨g, k, none⟩ = some (.int .u8 ((l[k]).toNat : Int)) := by
  have h0 := h
  rcases h.2 with ⟨_, e⟩ | ⟨g, cap, cur, rfl, _⟩
  · omega
  · obtain ⟨c, h1, h2⟩ := cell_own (l := l) h0 k hk
    rw [List.getElem?_eq_getElem hk] at h1
    cases h1
    exact ⟨g, cap, rfl, h2⟩

set_option maxRecDepth 100000 in
set_option maxHeartbeats 1000000 in
theorem ahead_near (R B d : Nat) (r : Rd) (l : List UInt8) (w : World) (hR : RdAt w R r) (ho : OutAt w B r.out l) (hd : 1 ≤ d) (h : d ≤ l.length) (hl : l.length ≤ 281474976710656) :
    Calls Try.prog 78 #[.pointer (some ⟨R, 0, none⟩), .int .i64 (d : Int)] w fun o w' => o = .returned (.int .u8 ((l[l.length - d]'(by omega)).toNat : Int)) ∧ Below w.heap.size w w' := by
  obtain ⟨g, cap, e, hc⟩ := ho.at (l.length - d) (by omega)
  have c8 := hR.out
  rw [e] at c8
  generalize l[l.length - d].toNat = b at *
  have q1 : decide ((d : Int) ≤ (l.length : Int)) = true := by simp; omega
  have q2 : decide (d ≤ l.length) = true := by simp; omega
  have a1 : IntKind.i64.wrap ((l.length : Int) - (d : Int)) = ((l.length - d : Nat) : Int) := by rw [IntWalk.i64_in _ (by omega)]; omega
  have a2 : l.length - d < l.length := by omega
  clear hR ho e hl h
  generalize l.length - d = k at *
  generalize l.length = n at *
  have a3 : (k : Int) < (n : Int) := by omega
  go_enter Try.func78, Try.ntmps78
  go_wp2
  go_quiet (fail)
  go_wp2
  go_ret
  exact ⟨rfl, below_drewN (Below.refl w.heap.size w) nq⟩

set_option maxRecDepth 100000 in
set_option maxHeartbeats 1000000 in
theorem ahead_far (R B B' d : Nat) (r : Rd) (l m : List UInt8) (w : World) (hR : RdAt w R r) (ho : OutAt w B r.out l) (hb : OutAt w B' r.back m) (hd : l.length < d) (h : d ≤ m.length + l.length) (hl : l.length ≤ 281474976710656) (hm : m.length ≤ 281474976710656) :
    Calls Try.prog 78 #[.pointer (some ⟨R, 0, none⟩), .int .i64 (d : Int)] w fun o w' => o = .returned (.int .u8 ((m[m.length + l.length - d]'(by omega)).toNat : Int)) ∧ Below w.heap.size w w' := by
  obtain ⟨g, cap, e, hc⟩ := hb.at (m.length + l.length - d) (by omega)
  obtain ⟨a0, cap0, e0, _⟩ := ho.slice
  have c8 := hR.out
  rw [e0] at c8
  have c7 := hR.back
  rw [e] at c7
  generalize m[m.length + l.length - d].toNat = b at *
  have q1 : decide ((d : Int) ≤ (l.length : Int)) = false := by simp; omega
  have q2 : decide (d ≤ l.length) = false := by simp; omega
  have a0' : IntKind.i64.wrap ((m.length : Int) + (l.length : Int)) = (m.length : Int) + (l.length : Int) := IntWalk.i64_in _ (by omega)
  have a1 : IntKind.i64.wrap ((m.length : Int) + (l.length : Int) - (d : Int)) = ((m.length + l.length - d : Nat) : Int) := by rw [IntWalk.i64_in _ (by omega)]; omega
  have a2 : m.length + l.length - d < m.length := by omega
  clear hR ho hb e e0 hl h hd
  generalize m.length + l.length - d = k at *
  generalize l.length = n at *
  generalize m.length = n' at *
  have a3 : (k : Int) < (n' : Int) := by omega
  go_enter Try.func78, Try.ntmps78
  go_wp2
  go_quiet (fail)
  go_wp2
  go_ret
  exact ⟨rfl, below_drewN (Below.refl w.heap.size w) nq⟩
end Go.Proofs.Ytcjcmlnbchmnnaa
/-! ### IBack -/
namespace Go.Proofs.Ytcjcmlnbchmnnaa
open Go.RowKit

/-- a slice that reads as these bytes -/
def ReadB (w : World) (x : Value) (m : List UInt8) : Prop :=
  ∃ ao c, x = .slice ao m.length c ∧ (ao = none ∧ m = [] ∨ ∃ g off, ao = some ⟨g, off, none⟩ ∧ ∀ k (h : k < m.length), w.cell? ⟨g, off + k, none⟩ = some (.int .u8 (m[k].toNat : Int)))
theorem OutAt.cellAt' {w : World} {B : Nat} {g n cap : Nat} {l : List UInt8} (h : OutAt w B (.slice (some ⟨g, 0, none⟩) n cap) l) (k : Nat) (hk : k < l.length) : w.cell? ⟨g, k, none⟩ = some (.int .u8 (l[k].toNat : Int)) := by
  have hn : n = l.length := by rcases h.2 with ⟨e, _⟩ | ⟨_, _, _, e, _⟩ <;> cases e; rfl
  subst hn
  unfold OutAt at h
  rw [h.cellAt k (by omega), bvals_get l k hk]
theorem OutAt.reads {w : World} {B : Nat} {v : Value} {l : List UInt8} (h : OutAt w B v l) : ReadB w v l := by
  obtain ⟨a0, cap, rfl, ⟨rfl, rfl⟩ | ⟨g, rfl⟩⟩ := h.slice
  · exact ⟨none, cap, rfl, .inl ⟨rfl, rfl⟩⟩
  · exact ⟨_, cap, rfl, .inr ⟨g, 0, rfl, fun k hk => by rw [Nat.zero_add]; exact h.cellAt' k hk⟩⟩
/-- what stands behind the first ones -/
theorem OutAt.reads_drop {w : World} {B g n cap : Nat} {l : List UInt8} (h : OutAt w B (.slice (some ⟨g, 0, none⟩) n cap) l) (k : Nat) (hk : k ≤ l.length) (c : Nat) (off : Nat) (ho : off = k ∨ k = l.length) : ReadB w (.slice (some ⟨g, off, none⟩) (l.length - k) c) (l.drop k) := by
  refine ⟨_, c, by rw [List.length_drop], .inr ⟨g, off, rfl, fun j hj => ?_⟩⟩
  rw [List.length_drop] at hj
  rcases ho with rfl | e
  · rw [h.cellAt' (off + j) (by omega), List.getElem_drop]
  · omega
/-- nothing behind a row: the row -/
theorem append_nothing {P : Program} {w : World} {T ty e : TypeId} {i : TypeInfo} (hT : P.underlying T = some (.slice e)) (hi : P.info? e = some i) {base size n : Nat} {v : Value} {xs : List Value} (h : w.ownsRow base e size v n xs) (c : Nat) :
    (Builtin.append_ #[T, T] ty #[v, .slice none 0 c]).run P w = .ok v w := by
  rcases h.2 with ⟨e1, e2⟩ | ⟨g, cap, cur, e1, _, _, hn, _⟩
  · subst e1 e2
    simp [Builtin.append_, run_underlying hT, sizeOf, typeInfo, hi, Builtin.lenOf, Builtin.firstCells]
  · subst e1
    simp [Builtin.append_, run_underlying hT, sizeOf, typeInfo, hi, Builtin.lenOf, Builtin.firstCells, hn, storeCells]
theorem append_bytes {w : World} {b0 : Nat} {v x : Value} {l m : List UInt8} (T ty : TypeId) (hT : Try.prog.underlying T = some (.slice 5)) (hown : OutAt w b0 v l) (hx : ReadB w x m) (hlen : l.length + m.length ≤ 140737488355328) (hb : b0 ≤ w.heap.size) :
    ∃ v' w', (Builtin.append_ #[T, T] ty #[v, x]).run Try.prog w = .ok v' w' ∧ OutAt w' b0 v' (l ++ m) ∧ w.grownBy w' v.ownBlock ∧ (v'.ownBlock = v.ownBlock ∨ v'.ownBlock = some w.heap.size) := by
  obtain ⟨i0, hi, hz0, hz1, hz2⟩ := info_parts info_u8
  obtain ⟨ao, c, rfl, ⟨rfl, rfl⟩ | ⟨g, off, rfl, hc⟩⟩ := hx
  · exact ⟨v, w, append_nothing hT hi hown c, by rw [List.append_nil]; exact hown, World.grownBy.refl w _, .inl rfl⟩
  · have hcells : ∀ j u, (bvals m)[j]? = some u → w.cell? ((⟨g, off, none⟩ : Addr).add j) = some u := by
      intro j u hj
      have hlt : j < m.length := by have := (List.getElem?_eq_some_iff.1 hj).1; rwa [bvals_length] at this
      have e : ((⟨g, off, none⟩ : Addr).add j) = ⟨g, off + j, none⟩ := by simp only [Addr.add]; split <;> simp_all
      rw [e, hc j hlt, ← bvals_get m j hlt, hj]
    obtain ⟨v', w', h1, h2, h3, _, h5⟩ := run_append_own_at (P := Try.prog) w b0 T ty 5 i0 (.int .u8 0) 1 1 hT hi hz0 hz1 hz2 rfl (by decide) v l.length (bvals l) hown ⟨g, off, none⟩ m.length c (bvals m) (by rw [bvals_length, Nat.mul_one]) hcells (bvals_one' m) (by unfold maxLen; omega) (by omega) hb
    exact ⟨v', w', h1, by unfold OutAt; rw [bvals_append, List.length_append]; exact h2, h3, h5⟩
theorem step_append_bytes {ops : Array Oper} {o : Oper} {a : Act} {w : World} {K : Act → World → Prop} {Q : Exit → Act → World → Prop} {E : Prop}
    (hg : o.guard = none) (s x : Operand) (T : TypeId) (hop : o.op = Op.call { callee := Callee.builtin Builtin.append, args := #[s, x], argTypes := #[T, T] })
    (hT : Try.prog.underlying T = some (.slice 5)) (b0 : Nat) (v xv : Value) (l m : List UInt8) (hs : a.eval s = v) (hxv : a.eval x = xv) (hown : OutAt w b0 v l) (hx : ReadB w xv m) (hlen : l.length + m.length ≤ 140737488355328) (hb : b0 ≤ w.heap.size)
    (hK : ∀ v' w', OutAt w' b0 v' (l ++ m) → w.grownBy w' v.ownBlock → (v'.ownBlock = v.ownBlock ∨ v'.ownBlock = some w.heap.size) → K (a.put o.dst v') w') :
    if Region.wanted o (yielded ops a.tmps) = true then Oper.wp Try.prog o a w K Q else E := by
  have hw : Region.wanted o (yielded ops a.tmps) = true := by simp [Region.wanted, hg]
  rw [if_pos hw]
  obtain ⟨v', w', hrun, r1, r2, r3⟩ := append_bytes T o.type hT hown hx hlen hb
  unfold Oper.wp
  simp [execOp, hop, resolve, invoke, builtin, hs, hxv, hrun, Result.andThen]
  exact hK v' w' r1 r2 r3
end Go.Proofs.Ytcjcmlnbchmnnaa
