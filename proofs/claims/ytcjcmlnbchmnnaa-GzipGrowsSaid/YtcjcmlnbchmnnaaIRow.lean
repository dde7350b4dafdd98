/- Rows of ints that a call owns; more steps of the model read (no program in sight but for the numbers of its types). -/
import Derived.Test.YtcjcmlnbchmnnaaISt
import Derived.Test.YtcjcmlnbchmnnaaPl
import Derived.Deep.LoopGhost
import Derived.Deep.DeepCutAuto
import Derived.Deep.CutBlock
namespace Go.Proofs.Ytcjcmlnbchmnnaa
open Go.RowKit

/-- ints as the values of a row -/
def nvals (l : List Nat) : List Value := l.map fun n : Nat => .int .i64 (n : Int)
theorem nvals_length (l : List Nat) : (nvals l).length = l.length := by simp [nvals]
theorem nvals_append (a b : List Nat) : nvals (a ++ b) = nvals a ++ nvals b := by simp [nvals]
theorem nvals_one' (l : List Nat) : ∀ u ∈ nvals l, u.oneCell' = true := by
  have e : nvals l = (l.map fun n : Nat => (n : Int)).map (Value.int .i64) := by simp [nvals]
  rw [e]; exact ints_oneCell _ _
theorem nvals_get (l : List Nat) (k : Nat) (h : k < l.length) : (nvals l)[k]? = some (.int .i64 (l[k] : Int)) := by simp [nvals, h]
/-- ints that are owned from a block on -/
def IRow (w : World) (B : Nat) (v : Value) (l : List Nat) : Prop := w.ownsRow B 3 1 v l.length (nvals l)
theorem IRow.nil (w : World) (B : Nat) : IRow w B (.slice none 0 0) [] := World.ownsRow_nil w B _ 1
theorem IRow.slice {w : World} {B : Nat} {v : Value} {l : List Nat} (h : IRow w B v l) : ∃ a0 cap, v = .slice a0 l.length cap ∧ (a0 = none ∧ l = [] ∨ ∃ g, a0 = some ⟨g, 0, none⟩) := by
  rcases h.2 with ⟨rfl, e⟩ | ⟨g, cap, cur, rfl, _⟩
  · exact ⟨none, 0, by rw [e], Or.inl ⟨rfl, List.eq_nil_of_length_eq_zero e⟩⟩
  · exact ⟨_, _, rfl, Or.inr ⟨g, rfl⟩⟩
theorem IRow.row {w : World} {B : Nat} {v : Value} {l : List Nat} (h : IRow w B v l) (k : Nat) (hk : v.ownBlock = some k) : B ≤ k ∧ k < w.heap.size ∧ ∃ cur, w.heap[k]? = some (.cells cur 3 (0, 0)) := by
  rcases h.2 with ⟨rfl, _⟩ | ⟨g, cap, cur, rfl, hb, hg, _⟩
  · simp [Value.ownBlock] at hk
  · simp [Value.ownBlock] at hk; subst hk; exact ⟨hb, lt_of_block hg, cur, hg⟩
theorem IRow.fr {R : Nat} {r : Rd} {w w' : World} {B : Nat} {v : Value} {l : List Nat} (h : IRow w B v l) (hR : RdAt w R r) (hf : Fr (· = R) w w') : IRow w' B v l := by
  refine ⟨h.1, ?_⟩
  rcases h.2 with hn | ⟨g, cap, cur, rfl, h1, hg, rest⟩
  · exact .inl hn
  · exact .inr ⟨g, cap, cur, rfl, h1, by rw [hf.block g (lt_of_block hg) (by rintro rfl; unfold RdAt at hR; rw [hg] at hR; cases hR)]; exact hg, rest⟩
theorem IRow.at {w : World} {B : Nat} {v : Value} {l : List Nat} (h : IRow w B v l) (k : Nat) (hk : k < l.length) :
    ∃ g cap, v = .slice (some ⟨g, 0, none⟩) l.length cap ∧ w.cell? ⟨g, k, none⟩ = some (.int .i64 (l[k] : Int)) := by
  have h0 := h
  rcases h.2 with ⟨_, e⟩ | ⟨g, cap, cur, rfl, _⟩
  · omega
  · refine ⟨g, cap, rfl, ?_⟩
    unfold IRow at h0
    rw [h0.cellAt k (by omega), nvals_get l k hk]
theorem IRow.sints {w : World} {B : Nat} {a0 : Option Addr} {l : List Nat} {n cap : Nat} (h : IRow w B (.slice a0 n cap) l) : SInts w a0 (ints l) := by
  intro j x hj
  have hlt : j < l.length := by have := (List.getElem?_eq_some_iff.1 hj).1; rwa [ints_length] at this
  obtain ⟨g, cap', e, hc⟩ := h.at j hlt
  cases e
  refine ⟨g, 0, rfl, ?_⟩
  rw [Nat.zero_add, hc]
  rw [ints_get l j hlt] at hj
  cases hj
  simp [Hm.len, hlt]
theorem RdAt.grownInts {w w' : World} {R : Nat} {r : Rd} {B : Nat} {v : Value} {l : List Nat} (hR : RdAt w R r) (h : IRow w B v l) (g : w.grownBy w' v.ownBlock) : RdAt w' R r := by
  unfold RdAt
  rw [g.block R hR.lt]
  · exact hR
  · intro e
    obtain ⟨_, _, cur, hc⟩ := h.row R e.symm
    unfold RdAt at hR; rw [hc] at hR; cases hR
theorem info_int_parts : ∃ i, Try.prog.info? 3 = some i ∧ i.zero = some (.int .i64 0) ∧ i.size = 1 ∧ i.bytes = 8 := by
  have h := infoInt
  cases hi : Try.prog.info? 3 with
  | none => rw [hi] at h; cases h
  | some i => rw [hi] at h; simp at h; exact ⟨i, rfl, h.1, h.2.1, h.2.2⟩
theorem new_ints (w : World) (vs : Array Value) (T : TypeId) (l : List Nat) (h : vs.toList = nvals l) :
    ∀ j u, (nvals l)[j]? = some u → (w.alloc (.cells vs T)).cell? ((⟨w.heap.size, 0, none⟩ : Addr).add j) = some u := by
  intro j u hj
  have e : ((⟨w.heap.size, 0, none⟩ : Addr).add j) = ⟨w.heap.size, j, none⟩ := by simp only [Addr.add]; split <;> simp_all
  rw [e, cell_of_row _ _ _ vs T (0, 0) (heap_alloc_new w _), ← Array.getElem?_toList, h, hj]
namespace Im
/-- what the lengths' loop has come to, for the one that reads on -/
theorem lensP_ok {ns : List Nat} {s : List UInt8} {all : Nat} (hn : ns.length ≤ 19) : ∀ f pos l l' p', lensP ns s all f pos l = .ok (l', p') → l.length ≤ all → Hm.Short l → pos ≤ 8 * s.length → l'.length = all ∧ Hm.Short l' ∧ p' ≤ 8 * s.length
  | 0, _, _, _, _, h, _, _, _ => by cases h
  | f + 1, pos, l, l', p', h, hl, hs, hp => by
    unfold lensP at h
    by_cases h0 : l.length < all
    · rw [if_pos h0] at h
      cases hx : symP ns s pos with
      | error e => rw [hx] at h; cases h
      | ok v =>
        obtain ⟨x, p⟩ := v
        rw [hx] at h
        obtain ⟨x1, x2, x3, _⟩ := symP_ok hx
        dsimp only at h
        have key : ∀ (m b : Nat) (v : Nat), v ≤ 15 → (match bitsP s p b with
            | .error e => (.error e : Except Int (List Nat × Nat))
            | .ok (k, p') => if l.length + (m + k) ≤ all then lensP ns s all f p' (l ++ List.replicate (m + k) v) else .error 90) = .ok (l', p') → l'.length = all ∧ Hm.Short l' ∧ p' ≤ 8 * s.length := by
          intro m b v hv hh
          cases hk : bitsP s p b with
          | error e => rw [hk] at hh; cases hh
          | ok y =>
            obtain ⟨k, q⟩ := y
            rw [hk] at hh
            dsimp only at hh
            by_cases h3 : l.length + (m + k) ≤ all
            · rw [if_pos h3] at hh
              refine lensP_ok hn f _ _ _ _ hh (by rw [List.length_append, List.length_replicate]; exact h3) ?_ (bitsP_ok hk).2.2
              intro z hz
              rcases List.mem_append.1 hz with hz | hz
              · exact hs z hz
              · rw [List.eq_of_mem_replicate hz]; exact hv
            · rw [if_neg h3] at hh; cases hh
        by_cases h1 : x = 16
        · rw [if_pos h1] at h
          by_cases h2 : l = []
          · rw [if_pos h2] at h; cases h
          · rw [if_neg h2] at h
            refine key 3 2 _ ?_ h
            rw [List.getLastD_eq_getLast?, List.getLast?_eq_some_getLast h2]
            exact hs _ (List.getLast_mem h2)
        rw [if_neg h1] at h
        by_cases h1 : x = 17
        · rw [if_pos h1] at h; exact key 3 3 0 (by omega) h
        rw [if_neg h1] at h
        by_cases h1 : x = 18
        · rw [if_pos h1] at h; exact key 11 7 0 (by omega) h
        rw [if_neg h1] at h
        refine lensP_ok hn f _ _ _ _ h (by rw [List.length_append]; simp; omega) ?_ x3
        intro z hz
        rcases List.mem_append.1 hz with hz | hz
        · exact hs z hz
        · rw [List.mem_singleton.1 hz]; omega
    · rw [if_neg h0] at h; cases h; exact ⟨by omega, hs, hp⟩
end Im
end Go.Proofs.Ytcjcmlnbchmnnaa
