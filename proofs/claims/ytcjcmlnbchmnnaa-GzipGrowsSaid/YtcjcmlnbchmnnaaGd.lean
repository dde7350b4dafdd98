/- Plain mathematics of layer 10: what bytes say as a gzip member, its head stage by stage, its tail (no program in sight). · The Reader of gzip in memory; number, text, Done, Rest: their contracts. -/
import Derived.Test.YtcjcmlnbchmnnaaPl
import Derived.Test.YtcjcmlnbchmnnaaBytes
import Derived.Test.YtcjcmlnbchmnnaaFr
import Derived.Test.YtcjcmlnbchmnnaaGet
import Derived.Test.YtcjcmlnbchmnnaaIdx
import Derived.WalkLawsBesides
import Derived.Deep.RegionWith
/-! ### Gz -/
namespace Go.Proofs.Ytcjcmlnbchmnnaa.Gz

/-- what a head comes to: not there whole, wrong, so many bytes -/
inductive HR where
  | more : HR
  | bad (e : Int) : HR
  | ok (k : Nat) : HR
/-- where the first nought stands -/
def nought : List UInt8 → Option Nat
  | [] => none
  | c :: l => if c = 0 then some 0 else (nought l).map (· + 1)
def textP (s : List UInt8) (p : Nat) : Option Nat := (nought (s.drop p)).map fun i => p + i + 1
def nAt (n : Nat) (s : List UInt8) (p : Nat) : Nat := Cm.getN ((s.drop p).take n)
def sumP (fl : Nat) (s : List UInt8) (p : Nat) : HR :=
  if fl / 2 % 2 = 1 then (if s.length < p + 2 then .more else if nAt 2 s p = Cm.crc 0 (s.take p) % 65536 then .ok (p + 2) else .bad 101) else .ok p
def comP (fl : Nat) (s : List UInt8) (p : Nat) : HR :=
  if fl / 16 % 2 = 1 then (match textP s p with
    | none => .more
    | some q => sumP fl s q) else sumP fl s p
def namP (fl : Nat) (s : List UInt8) (p : Nat) : HR :=
  if fl / 8 % 2 = 1 then (match textP s p with
    | none => .more
    | some q => comP fl s q) else comP fl s p
def extP (fl : Nat) (s : List UInt8) (p : Nat) : HR :=
  if fl / 4 % 2 = 1 then (if s.length < p + 2 then .more else if s.length < p + 2 + nAt 2 s p then .more else namP fl s (p + 2 + nAt 2 s p)) else namP fl s p
/-- the first three bytes and the flags are not as they must be -/
def Odd (s : List UInt8) : Prop :=
  (1 ≤ s.length ∧ s.getD 0 0 ≠ 31) ∨ (2 ≤ s.length ∧ s.getD 1 0 ≠ 139) ∨ (3 ≤ s.length ∧ s.getD 2 0 ≠ 8) ∨ (4 ≤ s.length ∧ 32 ≤ (s.getD 3 0).toNat)
instance (s : List UInt8) : Decidable (Odd s) := by unfold Odd; infer_instance
def magP (s : List UInt8) : HR := if Odd s then .bad 100 else if s.length < 10 then .more else extP (s.getD 3 0).toNat s 10
def stg (k fl : Nat) (s : List UInt8) (p : Nat) : HR := match k with
  | 0 => magP s
  | 1 => extP fl s p
  | 2 => namP fl s p
  | 3 => comP fl s p
  | _ => sumP fl s p

/-! more bytes behind -/
def Fits (x y : HR) : Prop := x = .more ∨ y = x
theorem Fits.rfl' (x : HR) : Fits x x := .inr rfl
theorem nought_app (t : List UInt8) : ∀ (s : List UInt8) (i : Nat), nought s = some i → nought (s ++ t) = some i
  | [], _, h => by cases h
  | c :: l, i, h => by
    unfold nought at h
    rw [List.cons_append]
    unfold nought
    by_cases h0 : c = 0
    · rw [if_pos h0] at h ⊢; exact h
    · rw [if_neg h0] at h ⊢
      cases hn : nought l with
      | none => rw [hn] at h; cases h
      | some j => rw [hn] at h; rw [nought_app t l j hn]; exact h
theorem nought_lt : ∀ (s : List UInt8) (i : Nat), nought s = some i → i < s.length
  | [], _, h => by cases h
  | c :: l, i, h => by
    unfold nought at h
    by_cases h0 : c = 0
    · rw [if_pos h0] at h; cases h; simp
    · rw [if_neg h0] at h
      cases hn : nought l with
      | none => rw [hn] at h; cases h
      | some j => rw [hn] at h; cases h; have := nought_lt l j hn; simp; omega
theorem textP_app {s : List UInt8} {p q : Nat} (t : List UInt8) (h : textP s p = some q) (hp : p ≤ s.length) : textP (s ++ t) p = some q := by
  unfold textP at *
  rw [List.drop_append_of_le_length hp]
  cases hn : nought (s.drop p) with
  | none => rw [hn] at h; cases h
  | some j => rw [hn] at h; rw [nought_app t _ j hn]; exact h
theorem textP_le {s : List UInt8} {p q : Nat} (h : textP s p = some q) (hp : p ≤ s.length) : p < q ∧ q ≤ s.length := by
  unfold textP at h
  cases hn : nought (s.drop p) with
  | none => rw [hn] at h; cases h
  | some j =>
    rw [hn] at h
    have e : p + j + 1 = q := by injection h
    have := nought_lt _ j hn
    rw [List.length_drop] at this
    omega
theorem nAt_app {n : Nat} {s : List UInt8} {p : Nat} (t : List UInt8) (h : p + n ≤ s.length) : nAt n (s ++ t) p = nAt n s p := by
  unfold nAt
  rw [List.drop_append_of_le_length (by omega), List.take_append_of_le_length (by rw [List.length_drop]; omega)]
theorem sumP_app (fl : Nat) (s t : List UInt8) (p : Nat) (hp : p ≤ s.length) : Fits (sumP fl s p) (sumP fl (s ++ t) p) := by
  unfold sumP
  by_cases h0 : fl / 2 % 2 = 1
  · have hl : (s ++ t).length = s.length + t.length := List.length_append
    rw [if_pos h0, if_pos h0]
    by_cases h1 : s.length < p + 2
    · rw [if_pos h1]; exact .inl rfl
    · have h1' : ¬ (s ++ t).length < p + 2 := by omega
      rw [if_neg h1, if_neg h1', nAt_app t (by omega), List.take_append_of_le_length hp]; exact .inr rfl
  · rw [if_neg h0, if_neg h0]; exact .inr rfl
theorem comP_app (fl : Nat) (s t : List UInt8) (p : Nat) (hp : p ≤ s.length) : Fits (comP fl s p) (comP fl (s ++ t) p) := by
  unfold comP
  by_cases h0 : fl / 16 % 2 = 1
  · rw [if_pos h0, if_pos h0]
    cases h1 : textP s p with
    | none => exact .inl rfl
    | some q => rw [textP_app t h1 hp]; exact sumP_app fl s t q (textP_le h1 hp).2
  · rw [if_neg h0, if_neg h0]; exact sumP_app fl s t p hp
theorem namP_app (fl : Nat) (s t : List UInt8) (p : Nat) (hp : p ≤ s.length) : Fits (namP fl s p) (namP fl (s ++ t) p) := by
  unfold namP
  by_cases h0 : fl / 8 % 2 = 1
  · rw [if_pos h0, if_pos h0]
    cases h1 : textP s p with
    | none => exact .inl rfl
    | some q => rw [textP_app t h1 hp]; exact comP_app fl s t q (textP_le h1 hp).2
  · rw [if_neg h0, if_neg h0]; exact comP_app fl s t p hp
theorem extP_app (fl : Nat) (s t : List UInt8) (p : Nat) (hp : p ≤ s.length) : Fits (extP fl s p) (extP fl (s ++ t) p) := by
  unfold extP
  by_cases h0 : fl / 4 % 2 = 1
  · have hl : (s ++ t).length = s.length + t.length := List.length_append
    rw [if_pos h0, if_pos h0]
    by_cases h1 : s.length < p + 2
    · rw [if_pos h1]; exact .inl rfl
    · have h1' : ¬ (s ++ t).length < p + 2 := by omega
      rw [if_neg h1, if_neg h1', nAt_app t (by omega)]
      by_cases h2 : s.length < p + 2 + nAt 2 s p
      · rw [if_pos h2]; exact .inl rfl
      · have h2' : ¬ (s ++ t).length < p + 2 + nAt 2 s p := by omega
        rw [if_neg h2, if_neg h2']; exact namP_app fl s t _ (by omega)
  · rw [if_neg h0, if_neg h0]; exact namP_app fl s t p hp
theorem getD_app {s : List UInt8} {i : Nat} (t : List UInt8) (h : i < s.length) : (s ++ t).getD i 0 = s.getD i 0 := by
  rw [List.getD_eq_getElem?_getD, List.getD_eq_getElem?_getD, List.getElem?_append_left h]
theorem odd_app {s : List UInt8} (t : List UInt8) (h : Odd s) : Odd (s ++ t) := by
  unfold Odd at *
  rw [List.length_append]
  rcases h with ⟨h, q⟩ | ⟨h, q⟩ | ⟨h, q⟩ | ⟨h, q⟩
  · exact .inl ⟨by omega, by rw [getD_app t (by omega)]; exact q⟩
  · exact .inr (.inl ⟨by omega, by rw [getD_app t (by omega)]; exact q⟩)
  · exact .inr (.inr (.inl ⟨by omega, by rw [getD_app t (by omega)]; exact q⟩))
  · exact .inr (.inr (.inr ⟨by omega, by rw [getD_app t (by omega)]; exact q⟩))
theorem even_app {s : List UInt8} (t : List UInt8) (h : ¬ Odd s) (hs : 10 ≤ s.length) : ¬ Odd (s ++ t) := by
  intro q
  unfold Odd at *
  rw [getD_app t (by omega), getD_app t (by omega), getD_app t (by omega), getD_app t (by omega)] at q
  rcases q with ⟨_, q⟩ | ⟨_, q⟩ | ⟨_, q⟩ | ⟨_, q⟩
  · exact h (.inl ⟨by omega, q⟩)
  · exact h (.inr (.inl ⟨by omega, q⟩))
  · exact h (.inr (.inr (.inl ⟨by omega, q⟩)))
  · exact h (.inr (.inr (.inr ⟨by omega, q⟩)))
theorem magP_app (s t : List UInt8) : Fits (magP s) (magP (s ++ t)) := by
  unfold magP
  by_cases h0 : Odd s
  · rw [if_pos h0, if_pos (odd_app t h0)]; exact .inr rfl
  · rw [if_neg h0]
    by_cases h1 : s.length < 10
    · rw [if_pos h1]; exact .inl rfl
    · have hl : ¬ (s ++ t).length < 10 := by rw [List.length_append]; omega
      rw [if_neg h1, if_neg (even_app t h0 (by omega)), if_neg hl, getD_app t (by omega)]
      exact extP_app _ s t 10 (by omega)
theorem stg_app (k fl : Nat) (s t : List UInt8) (p : Nat) (hp : p ≤ s.length) : Fits (stg k fl s p) (stg k fl (s ++ t) p) := by
  unfold stg
  split
  · exact magP_app s t
  · exact extP_app fl s t p hp
  · exact namP_app fl s t p hp
  · exact comP_app fl s t p hp
  · exact sumP_app fl s t p hp
/-! what heads are of so many bytes -/
theorem sumP_le {fl : Nat} {s : List UInt8} {p q : Nat} (h : sumP fl s p = .ok q) (hp : p ≤ s.length) : p ≤ q ∧ q ≤ s.length := by
  unfold sumP at h
  split at h
  · split at h
    · cases h
    · split at h
      · cases h; omega
      · cases h
  · cases h; omega
theorem comP_le {fl : Nat} {s : List UInt8} {p q : Nat} (h : comP fl s p = .ok q) (hp : p ≤ s.length) : p ≤ q ∧ q ≤ s.length := by
  unfold comP at h
  split at h
  · split at h
    · cases h
    · rename_i k hk
      have h1 := textP_le hk hp
      have h2 := sumP_le h h1.2
      omega
  · exact sumP_le h hp
theorem namP_le {fl : Nat} {s : List UInt8} {p q : Nat} (h : namP fl s p = .ok q) (hp : p ≤ s.length) : p ≤ q ∧ q ≤ s.length := by
  unfold namP at h
  split at h
  · split at h
    · cases h
    · rename_i k hk
      have h1 := textP_le hk hp
      have h2 := comP_le h h1.2
      omega
  · exact comP_le h hp
theorem extP_le {fl : Nat} {s : List UInt8} {p q : Nat} (h : extP fl s p = .ok q) (hp : p ≤ s.length) : p ≤ q ∧ q ≤ s.length := by
  unfold extP at h
  split at h
  · split at h
    · cases h
    · split at h
      · cases h
      · have := namP_le h (by omega); omega
  · exact namP_le h hp
theorem magP_le {s : List UInt8} {q : Nat} (h : magP s = .ok q) : 10 ≤ q ∧ q ≤ s.length := by
  unfold magP at h
  split at h
  · cases h
  · split at h
    · cases h
    · have := extP_le h (by omega); omega
theorem sumP_bad {fl : Nat} {s : List UInt8} {p : Nat} {e : Int} (h : sumP fl s p = .bad e) : e = 101 := by
  unfold sumP at h
  split at h
  · split at h
    · cases h
    · split at h
      · cases h
      · cases h; rfl
  · cases h
theorem comP_bad {fl : Nat} {s : List UInt8} {p : Nat} {e : Int} (h : comP fl s p = .bad e) : e = 101 := by
  unfold comP at h
  split at h
  · split at h
    · cases h
    · exact sumP_bad h
  · exact sumP_bad h
theorem namP_bad {fl : Nat} {s : List UInt8} {p : Nat} {e : Int} (h : namP fl s p = .bad e) : e = 101 := by
  unfold namP at h
  split at h
  · split at h
    · cases h
    · exact comP_bad h
  · exact comP_bad h
theorem extP_bad {fl : Nat} {s : List UInt8} {p : Nat} {e : Int} (h : extP fl s p = .bad e) : e = 101 := by
  unfold extP at h
  split at h
  · split at h
    · cases h
    · split at h
      · cases h
      · exact namP_bad h
  · exact namP_bad h
theorem magP_bad {s : List UInt8} {e : Int} (h : magP s = .bad e) : e = 100 ∨ e = 101 := by
  unfold magP at h
  split at h
  · cases h; exact .inl rfl
  · split at h
    · cases h
    · exact .inr (extP_bad h)

/-! the tail -/
/-- of a tail from q on, of bytes told: an error, and how many bytes there are if it has ended -/
def tailP (s : List UInt8) (q : Nat) (out : List UInt8) : Int × Option Nat :=
  if s.length < q + 4 then (0, none) else if nAt 4 s q ≠ Cm.crc 0 out then (101, none)
  else if s.length < q + 8 then (0, none) else if nAt 4 s (q + 4) ≠ out.length % 4294967296 then (101, none) else (0, some (q + 8))
theorem tailP_app {s : List UInt8} {q : Nat} {out : List UInt8} (t : List UInt8) (h : tailP s q out ≠ (0, none)) : tailP (s ++ t) q out = tailP s q out := by
  unfold tailP at *
  by_cases h1 : s.length < q + 4
  · rw [if_pos h1] at h; exact absurd rfl h
  · have hl : (s ++ t).length = s.length + t.length := List.length_append
    have h1' : ¬ (s ++ t).length < q + 4 := by omega
    rw [if_neg h1] at h ⊢
    rw [if_neg h1', nAt_app t (by omega)]
    by_cases h2 : nAt 4 s q ≠ Cm.crc 0 out
    · rw [if_pos h2, if_pos h2]
    · rw [if_neg h2] at h ⊢
      rw [if_neg h2]
      by_cases h3 : s.length < q + 8
      · rw [if_pos h3] at h; exact absurd rfl h
      · have h3' : ¬ (s ++ t).length < q + 8 := by omega
        rw [if_neg h3, if_neg h3', nAt_app t (by omega)]
theorem tailP_err {s : List UInt8} {q : Nat} {out : List UInt8} {e : Int} {f : Option Nat} (h : tailP s q out = (e, f)) : e = 0 ∨ e = 101 ∧ f = none := by
  unfold tailP at h
  split at h
  · cases h; exact .inl rfl
  · split at h
    · cases h; exact .inr ⟨rfl, rfl⟩
    · split at h
      · cases h; exact .inl rfl
      · split at h
        · cases h; exact .inr ⟨rfl, rfl⟩
        · cases h; exact .inl rfl
theorem tailP_fin {s : List UInt8} {q : Nat} {out : List UInt8} {e : Int} {k : Nat} (h : tailP s q out = (e, some k)) : e = 0 ∧ k = q + 8 ∧ k ≤ s.length := by
  unfold tailP at h
  split at h
  · cases h
  · split at h
    · cases h
    · split at h
      · cases h
      · split at h
        · cases h
        · cases h; exact ⟨rfl, rfl, by omega⟩

end Go.Proofs.Ytcjcmlnbchmnnaa.Gz
/-! ### Gd -/
namespace Go.Proofs.Ytcjcmlnbchmnnaa
open Go.RowKit

/-- a gzip Reader's fields -/
structure Gd where
  st : Int
  s : ByteArray
  p : Int
  fl : Int
  r : Value
  sum : Int
  e : Int
def Gd.cells (g : Gd) : Array Value := #[.int .i64 g.st, .string g.s, .int .i64 g.p, .int .u8 g.fl, g.r, .int .u32 g.sum, .int .i64 g.e]
def GdAt (w : World) (G : Nat) (g : Gd) : Prop := w.heap[G]? = some (.cells g.cells 61 (0, 0))
theorem GdAt.lt {w : World} {G : Nat} {g : Gd} (h : GdAt w G g) : G < w.heap.size := lt_of_block h
theorem GdAt.cell {w : World} {G : Nat} {g : Gd} (h : GdAt w G g) (i : Nat) : w.cell? ⟨G, i, none⟩ = g.cells[i]? := cell_of_row _ _ _ _ _ _ h
theorem GdAt.frozen {w : World} {G : Nat} {g : Gd} (h : GdAt w G g) (i : Nat) : w.frozen? ⟨G, i, none⟩ = false := frozen_of_row _ _ _ _ _ h
theorem GdAt.st {w : World} {G : Nat} {g : Gd} (h : GdAt w G g) : w.cell? ⟨G, 0, none⟩ = some (.int .i64 g.st) := h.cell 0
theorem GdAt.s {w : World} {G : Nat} {g : Gd} (h : GdAt w G g) : w.cell? ⟨G, 1, none⟩ = some (.string g.s) := h.cell 1
theorem GdAt.p {w : World} {G : Nat} {g : Gd} (h : GdAt w G g) : w.cell? ⟨G, 2, none⟩ = some (.int .i64 g.p) := h.cell 2
theorem GdAt.fl {w : World} {G : Nat} {g : Gd} (h : GdAt w G g) : w.cell? ⟨G, 3, none⟩ = some (.int .u8 g.fl) := h.cell 3
theorem GdAt.r {w : World} {G : Nat} {g : Gd} (h : GdAt w G g) : w.cell? ⟨G, 4, none⟩ = some g.r := h.cell 4
theorem GdAt.sum {w : World} {G : Nat} {g : Gd} (h : GdAt w G g) : w.cell? ⟨G, 5, none⟩ = some (.int .u32 g.sum) := h.cell 5
theorem GdAt.e {w : World} {G : Nat} {g : Gd} (h : GdAt w G g) : w.cell? ⟨G, 6, none⟩ = some (.int .i64 g.e) := h.cell 6
theorem GdAt.drew {w : World} {G : Nat} {g : Gd} (h : GdAt w G g) : GdAt w.drew G g := h
theorem GdAt.alloc {w : World} {G : Nat} {g : Gd} (h : GdAt w G g) (o : Obj) : GdAt (w.alloc o) G g := by unfold GdAt; rw [Below.heap_alloc w o G h.lt]; exact h
theorem GdAt.below {w w' : World} {G : Nat} {g : Gd} (h : GdAt w G g) (hb : Below w.heap.size w w') : GdAt w' G g := by unfold GdAt; rw [hb.block G h.lt]; exact h
theorem GdAt.fr {w w' : World} {G : Nat} {g : Gd} {S : Nat → Prop} (h : GdAt w G g) (hf : Fr S w w') (hn : ¬ S G) : GdAt w' G g := by unfold GdAt; rw [hf.block G h.lt hn]; exact h
theorem GdAt.set {w : World} {G : Nat} {g g' : Gd} (h : GdAt w G g) (i : Nat) (v : Value) (e : g.cells.setIfInBounds i v = g'.cells) : GdAt (w.setCell ⟨G, i, none⟩ v) G g' := by
  unfold GdAt; rw [← e]; exact heap_setCell_same w G i _ _ v h

theorem sub_list (s : ByteArray) (p n : Nat) : (s.extract p (p + n)).data.toList = (s.data.toList.drop p).take n := by
  simp
theorem ext_size' (s : ByteArray) (p q : Nat) (h : q ≤ s.size) : (s.extract p q).size = q - p := by simp; omega
theorem number_no (G : Nat) (g : Gd) (p n : Nat) (w : World) (hG : GdAt w G g) (hp : g.p = p) (_hn : n ≤ 4) (hs : g.s.size ≤ 281474976710656) (hps : p ≤ g.s.size) (h : g.s.size < p + n) :
    Calls Try.prog 69 #[.pointer (some ⟨G, 0, none⟩), .int .i64 (n : Int)] w fun o w' => o = .returned (.tuple #[.int .i64 0, .bool false]) ∧ Below w.heap.size w w' := by
  have c1 := hG.s
  have c2 := hG.p
  rw [hp] at c2
  have e1 : IntKind.i64.wrap ((g.s.size : Int) - (p : Int)) = (g.s.size : Int) - p := IntWalk.i64_in _ (by omega)
  have e2 : decide ((g.s.size : Int) - (p : Int) < (n : Int)) = true := decide_eq_true (by omega)
  have hb := (Below.refl w.heap.size w).drew
  clear hG hp hps h hs
  go_enter Try.func69, Try.ntmps69
  go_wp2_with fail
  go_region
  all_goals
    go_wp2_with fail
    go_ret2
    exact ⟨rfl, hb⟩
set_option maxRecDepth 100000 in
set_option maxHeartbeats 2000000 in
theorem number_yes (G : Nat) (g : Gd) (p n : Nat) (w : World) (hG : GdAt w G g) (hp : g.p = p) (h1 : 1 ≤ n) (hn : n ≤ 4) (hs : g.s.size ≤ 281474976710656) (h : p + n ≤ g.s.size) :
    Calls Try.prog 69 #[.pointer (some ⟨G, 0, none⟩), .int .i64 (n : Int)] w fun o w' => o = .returned (.tuple #[.int .i64 (Gz.nAt n g.s.data.toList p : Int), .bool true]) ∧ Below w.heap.size w w' := by
  have c1 := hG.s
  have c2 := hG.p
  rw [hp] at c2
  have e1 : IntKind.i64.wrap ((g.s.size : Int) - (p : Int)) = (g.s.size : Int) - p := IntWalk.i64_in _ (by omega)
  have e2 : decide ((g.s.size : Int) - (p : Int) < (n : Int)) = false := decide_eq_false (by omega)
  have e3 : IntKind.i64.wrap ((p : Int) + (n : Int)) = ((p + n : Nat) : Int) := by rw [IntWalk.i64_in _ (by omega)]; omega
  have hq : p + n ≤ g.s.size := h
  have hpq : p ≤ p + n := by omega
  have HG := fun w => Lib.hid (get_yes (g.s.extract p (p + n)) w (by rw [ext_size' _ _ _ h]; omega) (by rw [ext_size' _ _ _ h]; omega))
  rw [sub_list] at HG
  have hb := ((Below.refl w.heap.size w).drew).drew
  have HN := Lib.hid (show Cm.getN ((g.s.data.toList.drop p).take n) = Gz.nAt n g.s.data.toList p from rfl)
  generalize Cm.getN ((g.s.data.toList.drop p).take n) = v at *
  clear hG hp h h1
  generalize p + n = q at *
  go_enter Try.func69, Try.ntmps69
  go_wp2_with fail
  go_region
  all_goals
    go_wp2_with fail
    go_region_with (go_at_call 81; refine (HG _).out.mono ?_; rintro o w' ⟨rfl, rfl⟩)
    all_goals
      go_wp2_with fail
      go_ret2
      exact ⟨by rw [← HN.out]; rfl, hb⟩
theorem idx_nought : ∀ l : List UInt8, Lib.indexByte l 0 = match Gz.nought l with
    | none => -1
    | some i => (i : Int)
  | [] => rfl
  | c :: l => by
    unfold Lib.indexByte Gz.nought
    have ih := idx_nought l
    by_cases h0 : c = 0
    · subst h0; rfl
    · rw [if_neg (by simpa using h0), if_neg h0, ih]
      cases Gz.nought l with
      | none => rfl
      | some i =>
        have : ¬ ((i : Int) == -1) = true := by simp
        show (if ((i : Int) == -1) = true then (-1 : Int) else (i : Int) + 1) = ((i + 1 : Nat) : Int)
        rw [if_neg this]
        omega
theorem drop_list (s : ByteArray) (p : Nat) : (s.extract p s.size).data.toList = s.data.toList.drop p := by
  simp
  rw [List.take_of_length_le]
  rw [List.length_drop, Array.length_toList]
  exact Nat.le_refl _
set_option maxRecDepth 100000 in
set_option maxHeartbeats 2000000 in
theorem text_no (G : Nat) (g : Gd) (p : Nat) (w : World) (hG : GdAt w G g) (hp : g.p = p) (_hs : g.s.size ≤ 281474976710656) (hps : p ≤ g.s.size) (h : Gz.textP g.s.data.toList p = none) :
    Calls Try.prog 70 #[.pointer (some ⟨G, 0, none⟩)] w fun o w' => o = .returned (.bool false) ∧ Below w.heap.size w w' := by
  have c1 := hG.s
  have c2 := hG.p
  rw [hp] at c2
  have HI := fun w => Lib.hid (idx_any (g.s.extract p g.s.size) 0 w)
  have hn : Gz.nought (g.s.data.toList.drop p) = none := by
    unfold Gz.textP at h
    cases hn : Gz.nought (g.s.data.toList.drop p) with
    | none => rfl
    | some i => rw [hn] at h; cases h
  have hi : Lib.indexByte (g.s.extract p g.s.size).data.toList (0 : Int).toNat.toUInt8 = -1 := by
    rw [drop_list]; show Lib.indexByte _ 0 = _; rw [idx_nought, hn]
  simp only [hi] at HI
  have hb := (Below.refl w.heap.size w).drew
  clear hG hp h hn hi
  go_enter Try.func70, Try.ntmps70
  go_wp2_with fail
  go_region_with (go_at_call 82; refine (HI _).out.mono ?_; rintro o w' ⟨rfl, rfl⟩)
  all_goals
    go_wp2_with fail
    go_ret
    exact ⟨rfl, hb⟩
set_option maxRecDepth 100000 in
set_option maxHeartbeats 2000000 in
theorem text_yes (G : Nat) (g : Gd) (p q : Nat) (w : World) (hG : GdAt w G g) (hp : g.p = p) (hs : g.s.size ≤ 281474976710656) (hps : p ≤ g.s.size) (h : Gz.textP g.s.data.toList p = some q) :
    Calls Try.prog 70 #[.pointer (some ⟨G, 0, none⟩)] w fun o w' => o = .returned (.bool true) ∧ GdAt w' G { g with p := (q : Int) } ∧ Fr (· = G) w w' := by
  have c1 := hG.s
  have c2 := hG.p
  rw [hp] at c2
  have f2 := hG.frozen 2
  have HI := fun w => Lib.hid (idx_any (g.s.extract p g.s.size) 0 w)
  have hql := Gz.textP_le h (by rw [Array.length_toList]; exact hps)
  rw [show g.s.data.toList.length = g.s.size from by rw [Array.length_toList]; rfl] at hql
  obtain ⟨i, hn, hqi⟩ : ∃ i, Gz.nought (g.s.data.toList.drop p) = some i ∧ q = p + i + 1 := by
    unfold Gz.textP at h
    cases hn : Gz.nought (g.s.data.toList.drop p) with
    | none => rw [hn] at h; cases h
    | some i => rw [hn] at h; injection h with h; exact ⟨i, rfl, h.symm⟩
  have hi : Lib.indexByte (g.s.extract p g.s.size).data.toList (0 : Int).toNat.toUInt8 = (i : Int) := by
    rw [drop_list]; show Lib.indexByte _ 0 = _; rw [idx_nought, hn]
  simp only [hi] at HI
  have hi0 : decide ((i : Int) < 0) = false := decide_eq_false (by omega)
  have e3 : IntKind.i64.wrap ((i : Int) + 1) = (i : Int) + 1 := IntWalk.i64_in _ (by omega)
  have e4 : IntKind.i64.wrap ((p : Int) + ((i : Int) + 1)) = (q : Int) := by rw [IntWalk.i64_in _ (by omega)]; omega
  have hf := ((Fr.refl (· = G) w).drew).setCell (p := ⟨G, 2, none⟩) (Or.inl rfl) (.int .i64 (q : Int))
  have hG2 : GdAt (w.drew.setCell ⟨G, 2, none⟩ (.int .i64 (q : Int))) G { g with p := (q : Int) } := hG.drew.set 2 _ rfl
  clear hG hp h hn hi hqi hs hql
  go_enter Try.func70, Try.ntmps70
  go_wp2_with fail
  go_region_with (go_at_call 82; refine (HI _).out.mono ?_; rintro o w' ⟨rfl, rfl⟩)
  all_goals
    go_wp2_with fail
    go_ret
    exact ⟨rfl, hG2, hf⟩
end Go.Proofs.Ytcjcmlnbchmnnaa
