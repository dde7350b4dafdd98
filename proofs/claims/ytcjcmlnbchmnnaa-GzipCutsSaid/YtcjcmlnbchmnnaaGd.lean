/- The Reader of gzip in memory; number, text, Done, Rest: their contracts. -/
import Derived.Test.YtcjcmlnbchmnnaaGz
import Derived.Test.YtcjcmlnbchmnnaaBytes
import Derived.Test.YtcjcmlnbchmnnaaFr
import Derived.Test.YtcjcmlnbchmnnaaGet
import Derived.Test.YtcjcmlnbchmnnaaIdx
import Derived.WalkLawsBesides
import Derived.Deep.RegionWith
namespace Go.Proofs.Ytcjcmlnbchmnnaa
open Go.RowKit

/-- a gzip Reader's fields -/
structure Gd where
  st : Int
  s : ByteArray
  p : Int
  fl : Int
  r : Value
  sum : Int
  e : Int
def Gd.cells (g : Gd) : Array Value := #[.int .i64 g.st, .string g.s, .int .i64 g.p, .int .u8 g.fl, g.r, .int .u32 g.sum, .int .i64 g.e]
def GdAt (w : World) (G : Nat) (g : Gd) : Prop := w.heap[G]? = some (.cells g.cells 61 (0, 0))
theorem GdAt.lt {w : World} {G : Nat} {g : Gd} (h : GdAt w G g) : G < w.heap.size := lt_of_block h
theorem GdAt.cell {w : World} {G : Nat} {g : Gd} (h : GdAt w G g) (i : Nat) : w.cell? ⟨G, i, none⟩ = g.cells[i]? := cell_of_row _ _ _ _ _ _ h
theorem GdAt.frozen {w : World} {G : Nat} {g : Gd} (h : GdAt w G g) (i : Nat) : w.frozen? ⟨G, i, none⟩ = false := frozen_of_row _ _ _ _ _ h
theorem GdAt.st {w : World} {G : Nat} {g : Gd} (h : GdAt w G g) : w.cell? ⟨G, 0, none⟩ = some (.int .i64 g.st) := h.cell 0
theorem GdAt.s {w : World} {G : Nat} {g : Gd} (h : GdAt w G g) : w.cell? ⟨G, 1, none⟩ = some (.string g.s) := h.cell 1
theorem GdAt.p {w : World} {G : Nat} {g : Gd} (h : GdAt w G g) : w.cell? ⟨G, 2, none⟩ = some (.int .i64 g.p) := h.cell 2
theorem GdAt.fl {w : World} {G : Nat} {g : Gd} (h : GdAt w G g) : w.cell? ⟨G, 3, none⟩ = some (.int .u8 g.fl) := h.cell 3
theorem GdAt.r {w : World} {G : Nat} {g : Gd} (h : GdAt w G g) : w.cell? ⟨G, 4, none⟩ = some g.r := h.cell 4
theorem GdAt.sum {w : World} {G : Nat} {g : Gd} (h : GdAt w G g) : w.cell? ⟨G, 5, none⟩ = some (.int .u32 g.sum) := h.cell 5
theorem GdAt.e {w : World} {G : Nat} {g : Gd} (h : GdAt w G g) : w.cell? ⟨G, 6, none⟩ = some (.int .i64 g.e) := h.cell 6
theorem GdAt.drew {w : World} {G : Nat} {g : Gd} (h : GdAt w G g) : GdAt w.drew G g := h
theorem GdAt.alloc {w : World} {G : Nat} {g : Gd} (h : GdAt w G g) (o : Obj) : GdAt (w.alloc o) G g := by unfold GdAt; rw [Below.heap_alloc w o G h.lt]; exact h
theorem GdAt.below {w w' : World} {G : Nat} {g : Gd} (h : GdAt w G g) (hb : Below w.heap.size w w') : GdAt w' G g := by unfold GdAt; rw [hb.block G h.lt]; exact h
theorem GdAt.fr {w w' : World} {G : Nat} {g : Gd} {S : Nat → Prop} (h : GdAt w G g) (hf : Fr S w w') (hn : ¬ S G) : GdAt w' G g := by unfold GdAt; rw [hf.block G h.lt hn]; exact h
theorem GdAt.set {w : World} {G : Nat} {g g' : Gd} (h : GdAt w G g) (i : Nat) (v : Value) (e : g.cells.setIfInBounds i v = g'.cells) : GdAt (w.setCell ⟨G, i, none⟩ v) G g' := by
  unfold GdAt; rw [← e]; exact heap_setCell_same w G i _ _ v h

theorem sub_list (s : ByteArray) (p n : Nat) : (s.extract p (p + n)).data.toList = (s.data.toList.drop p).take n := by
  simp
theorem ext_size' (s : ByteArray) (p q : Nat) (h : q ≤ s.size) : (s.extract p q).size = q - p := by simp; omega
theorem number_no (G : Nat) (g : Gd) (p n : Nat) (w : World) (hG : GdAt w G g) (hp : g.p = p) (_hn : n ≤ 4) (hs : g.s.size ≤ 281474976710656) (hps : p ≤ g.s.size) (h : g.s.size < p + n) :
    Calls Try.prog 69 #[.pointer (some ⟨G, 0, none⟩), .int .i64 (n : Int)] w fun o w' => o = .returned (.tuple #[.int .i64 0, .bool false]) ∧ Below w.heap.size w w' := by
  have c1 := hG.s
  have c2 := hG.p
  rw [hp] at c2
  have e1 : IntKind.i64.wrap ((g.s.size : Int) - (p : Int)) = (g.s.size : Int) - p := IntWalk.i64_in _ (by omega)
  have e2 : decide ((g.s.size : Int) - (p : Int) < (n : Int)) = true := decide_eq_true (by omega)
  have hb := (Below.refl w.heap.size w).drew
  clear hG hp hps h hs
  go_enter Try.func69, Try.ntmps69
  go_wp2_with fail
  go_region
  all_goals
    go_wp2_with fail
    go_ret2
    exact ⟨rfl, hb⟩
set_option maxRecDepth 100000 in
set_option maxHeartbeats 2000000 in
theorem number_yes (G : Nat) (g : Gd) (p n : Nat) (w : World) (hG : GdAt w G g) (hp : g.p = p) (h1 : 1 ≤ n) (hn : n ≤ 4) (hs : g.s.size ≤ 281474976710656) (h : p + n ≤ g.s.size) :
    Calls Try.prog 69 #[.pointer (some ⟨G, 0, none⟩), .int .i64 (n : Int)] w fun o w' => o = .returned (.tuple #[.int .i64 (Gz.nAt n g.s.data.toList p : Int), .bool true]) ∧ Below w.heap.size w w' := by
  have c1 := hG.s
  have c2 := hG.p
  rw [hp] at c2
  have e1 : IntKind.i64.wrap ((g.s.size : Int) - (p : Int)) = (g.s.size : Int) - p := IntWalk.i64_in _ (by omega)
  have e2 : decide ((g.s.size : Int) - (p : Int) < (n : Int)) = false := decide_eq_false (by omega)
  have e3 : IntKind.i64.wrap ((p : Int) + (n : Int)) = ((p + n : Nat) : Int) := by rw [IntWalk.i64_in _ (by omega)]; omega
  have hq : p + n ≤ g.s.size := h
  have hpq : p ≤ p + n := by omega
  have HG := fun w => Lib.hid (get_yes (g.s.extract p (p + n)) w (by rw [ext_size' _ _ _ h]; omega) (by rw [ext_size' _ _ _ h]; omega))
  rw [sub_list] at HG
  have hb := ((Below.refl w.heap.size w).drew).drew
  have HN := Lib.hid (show Cm.getN ((g.s.data.toList.drop p).take n) = Gz.nAt n g.s.data.toList p from rfl)
  generalize Cm.getN ((g.s.data.toList.drop p).take n) = v at *
  clear hG hp h h1
  generalize p + n = q at *
  go_enter Try.func69, Try.ntmps69
  go_wp2_with fail
  go_region
  all_goals
    go_wp2_with fail
    go_region_with (go_at_call 81; refine (HG _).out.mono ?_; rintro o w' ⟨rfl, rfl⟩)
    all_goals
      go_wp2_with fail
      go_ret2
      exact ⟨by rw [← HN.out]; rfl, hb⟩
theorem idx_nought : ∀ l : List UInt8, Lib.indexByte l 0 = match Gz.nought l with
    | none => -1
    | some i => (i : Int)
  | [] => rfl
  | c :: l => by
    unfold Lib.indexByte Gz.nought
    have ih := idx_nought l
    by_cases h0 : c = 0
    · subst h0; rfl
    · rw [if_neg (by simpa using h0), if_neg h0, ih]
      cases Gz.nought l with
      | none => rfl
      | some i =>
        have : ¬ ((i : Int) == -1) = true := by simp
        show (if ((i : Int) == -1) = true then (-1 : Int) else (i : Int) + 1) = ((i + 1 : Nat) : Int)
        rw [if_neg this]
        omega
theorem drop_list (s : ByteArray) (p : Nat) : (s.extract p s.size).data.toList = s.data.toList.drop p := by
  simp
  rw [List.take_of_length_le]
  rw [List.length_drop, Array.length_toList]
  exact Nat.le_refl _
set_option maxRecDepth 100000 in
set_option maxHeartbeats 2000000 in
theorem text_no (G : Nat) (g : Gd) (p : Nat) (w : World) (hG : GdAt w G g) (hp : g.p = p) (_hs : g.s.size ≤ 281474976710656) (hps : p ≤ g.s.size) (h : Gz.textP g.s.data.toList p = none) :
    Calls Try.prog 70 #[.pointer (some ⟨G, 0, none⟩)] w fun o w' => o = .returned (.bool false) ∧ Below w.heap.size w w' := by
  have c1 := hG.s
  have c2 := hG.p
  rw [hp] at c2
  have HI := fun w => Lib.hid (idx_any (g.s.extract p g.s.size) 0 w)
  have hn : Gz.nought (g.s.data.toList.drop p) = none := by
    unfold Gz.textP at h
    cases hn : Gz.nought (g.s.data.toList.drop p) with
    | none => rfl
    | some i => rw [hn] at h; cases h
  have hi : Lib.indexByte (g.s.extract p g.s.size).data.toList (0 : Int).toNat.toUInt8 = -1 := by
    rw [drop_list]; show Lib.indexByte _ 0 = _; rw [idx_nought, hn]
  simp only [hi] at HI
  have hb := (Below.refl w.heap.size w).drew
  clear hG hp h hn hi
  go_enter Try.func70, Try.ntmps70
  go_wp2_with fail
  go_region_with (go_at_call 82; refine (HI _).out.mono ?_; rintro o w' ⟨rfl, rfl⟩)
  all_goals
    go_wp2_with fail
    go_ret
    exact ⟨rfl, hb⟩
set_option maxRecDepth 100000 in
set_option maxHeartbeats 2000000 in
theorem text_yes (G : Nat) (g : Gd) (p q : Nat) (w : World) (hG : GdAt w G g) (hp : g.p = p) (hs : g.s.size ≤ 281474976710656) (hps : p ≤ g.s.size) (h : Gz.textP g.s.data.toList p = some q) :
    Calls Try.prog 70 #[.pointer (some ⟨G, 0, none⟩)] w fun o w' => o = .returned (.bool true) ∧ GdAt w' G { g with p := (q : Int) } ∧ Fr (· = G) w w' := by
  have c1 := hG.s
  have c2 := hG.p
  rw [hp] at c2
  have f2 := hG.frozen 2
  have HI := fun w => Lib.hid (idx_any (g.s.extract p g.s.size) 0 w)
  have hql := Gz.textP_le h (by rw [Array.length_toList]; exact hps)
  rw [show g.s.data.toList.length = g.s.size from by rw [Array.length_toList]; rfl] at hql
  obtain ⟨i, hn, hqi⟩ : ∃ i, Gz.nought (g.s.data.toList.drop p) = some i ∧ q = p + i + 1 := by
    unfold Gz.textP at h
    cases hn : Gz.nought (g.s.data.toList.drop p) with
    | none => rw [hn] at h; cases h
    | some i => rw [hn] at h; injection h with h; exact ⟨i, rfl, h.symm⟩
  have hi : Lib.indexByte (g.s.extract p g.s.size).data.toList (0 : Int).toNat.toUInt8 = (i : Int) := by
    rw [drop_list]; show Lib.indexByte _ 0 = _; rw [idx_nought, hn]
  simp only [hi] at HI
  have hi0 : decide ((i : Int) < 0) = false := decide_eq_false (by omega)
  have e3 : IntKind.i64.wrap ((i : Int) + 1) = (i : Int) + 1 := IntWalk.i64_in _ (by omega)
  have e4 : IntKind.i64.wrap ((p : Int) + ((i : Int) + 1)) = (q : Int) := by rw [IntWalk.i64_in _ (by omega)]; omega
  have hf := ((Fr.refl (· = G) w).drew).setCell (p := ⟨G, 2, none⟩) (Or.inl rfl) (.int .i64 (q : Int))
  have hG2 : GdAt (w.drew.setCell ⟨G, 2, none⟩ (.int .i64 (q : Int))) G { g with p := (q : Int) } := hG.drew.set 2 _ rfl
  clear hG hp h hn hi hqi hs hql
  go_enter Try.func70, Try.ntmps70
  go_wp2_with fail
  go_region_with (go_at_call 82; refine (HI _).out.mono ?_; rintro o w' ⟨rfl, rfl⟩)
  all_goals
    go_wp2_with fail
    go_ret
    exact ⟨rfl, hG2, hf⟩
end Go.Proofs.Ytcjcmlnbchmnnaa
