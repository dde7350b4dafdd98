/- The Reader of inflate in memory; must. · What a call of a Reader's may have changed: its own cells, and rows of bytes from a block on (no program in sight). · inflate.New, Done, Rest, Told: their contracts. -/
import Derived.Test.YtcjcmlnbchmnnaaNew
import Derived.Test.YtcjcmlnbchmnnaaFr
import Derived.Recover
import Derived.WalkLawsBesides
import Derived.Test.YtcjcmlnbchmnnaaBytes
/-! ### Rd -/
namespace Go.Proofs.Ytcjcmlnbchmnnaa
open Go.RowKit

/-- a Reader's fields -/
structure Rd where
  s : ByteArray
  bit : Int
  state : Int
  last : Bool
  left : Int
  lit : Value
  dist : Value
  back : Value
  out : Value
  told : Int
  most : Int
  e : Int
def Rd.cells (r : Rd) : Array Value := #[.string r.s, .int .i64 r.bit, .int .i64 r.state, .bool r.last, .int .i64 r.left, r.lit, r.dist, r.back, r.out, .int .i64 r.told, .int .i64 r.most, .int .i64 r.e]
def RdAt (w : World) (R : Nat) (r : Rd) : Prop := w.heap[R]? = some (.cells r.cells 69 (0, 0))
theorem RdAt.lt {w : World} {R : Nat} {r : Rd} (h : RdAt w R r) : R < w.heap.size := lt_of_block h
theorem RdAt.cell {w : World} {R : Nat} {r : Rd} (h : RdAt w R r) (i : Nat) : w.cell? ⟨R, i, none⟩ = r.cells[i]? := cell_of_row _ _ _ _ _ _ h
theorem RdAt.frozen {w : World} {R : Nat} {r : Rd} (h : RdAt w R r) (i : Nat) : w.frozen? ⟨R, i, none⟩ = false := frozen_of_row _ _ _ _ _ h
theorem RdAt.s {w : World} {R : Nat} {r : Rd} (h : RdAt w R r) : w.cell? ⟨R, 0, none⟩ = some (.string r.s) := h.cell 0
theorem RdAt.bit {w : World} {R : Nat} {r : Rd} (h : RdAt w R r) : w.cell? ⟨R, 1, none⟩ = some (.int .i64 r.bit) := h.cell 1
theorem RdAt.state {w : World} {R : Nat} {r : Rd} (h : RdAt w R r) : w.cell? ⟨R, 2, none⟩ = some (.int .i64 r.state) := h.cell 2
theorem RdAt.last {w : World} {R : Nat} {r : Rd} (h : RdAt w R r) : w.cell? ⟨R, 3, none⟩ = some (.bool r.last) := h.cell 3
theorem RdAt.left {w : World} {R : Nat} {r : Rd} (h : RdAt w R r) : w.cell? ⟨R, 4, none⟩ = some (.int .i64 r.left) := h.cell 4
theorem RdAt.lit {w : World} {R : Nat} {r : Rd} (h : RdAt w R r) : w.cell? ⟨R, 5, none⟩ = some r.lit := h.cell 5
theorem RdAt.dist {w : World} {R : Nat} {r : Rd} (h : RdAt w R r) : w.cell? ⟨R, 6, none⟩ = some r.dist := h.cell 6
theorem RdAt.back {w : World} {R : Nat} {r : Rd} (h : RdAt w R r) : w.cell? ⟨R, 7, none⟩ = some r.back := h.cell 7
theorem RdAt.out {w : World} {R : Nat} {r : Rd} (h : RdAt w R r) : w.cell? ⟨R, 8, none⟩ = some r.out := h.cell 8
theorem RdAt.told {w : World} {R : Nat} {r : Rd} (h : RdAt w R r) : w.cell? ⟨R, 9, none⟩ = some (.int .i64 r.told) := h.cell 9
theorem RdAt.most {w : World} {R : Nat} {r : Rd} (h : RdAt w R r) : w.cell? ⟨R, 10, none⟩ = some (.int .i64 r.most) := h.cell 10
theorem RdAt.e {w : World} {R : Nat} {r : Rd} (h : RdAt w R r) : w.cell? ⟨R, 11, none⟩ = some (.int .i64 r.e) := h.cell 11
theorem RdAt.drew {w : World} {R : Nat} {r : Rd} (h : RdAt w R r) : RdAt w.drew R r := h
theorem RdAt.drewN {w : World} {R : Nat} {r : Rd} (h : RdAt w R r) (n : Nat) : RdAt (w.drewN n) R r := by
  unfold RdAt; rw [(below_drewN (Below.refl w.heap.size w) n).block R h.lt]; exact h
theorem RdAt.alloc {w : World} {R : Nat} {r : Rd} (h : RdAt w R r) (o : Obj) : RdAt (w.alloc o) R r := by unfold RdAt; rw [Below.heap_alloc w o R h.lt]; exact h
theorem RdAt.below {w w' : World} {R : Nat} {r : Rd} (h : RdAt w R r) (hb : Below w.heap.size w w') : RdAt w' R r := by unfold RdAt; rw [hb.block R h.lt]; exact h
theorem RdAt.fr {w w' : World} {R : Nat} {r : Rd} {S : Nat → Prop} (h : RdAt w R r) (hf : Fr S w w') (hn : ¬ S R) : RdAt w' R r := by unfold RdAt; rw [hf.block R h.lt hn]; exact h
theorem RdAt.set {w : World} {R : Nat} {r r' : Rd} (h : RdAt w R r) (i : Nat) (v : Value) (e : r.cells.setIfInBounds i v = r'.cells) : RdAt (w.setCell ⟨R, i, none⟩ v) R r' := by
  unfold RdAt; rw [← e]; exact heap_setCell_same w R i _ _ v h
theorem RdAt.setOther {w : World} {R : Nat} {r : Rd} (h : RdAt w R r) {a : Addr} (ha : R ≠ a.block) (v : Value) : RdAt (w.setCell a v) R r := by
  unfold RdAt; rw [heap_setCell_other w a R v ha]; exact h

/-- what must gives up with -/
def stopped (e : Int) : Ending := .panicked [{ v := .iface 83 (.agg #[.int .i64 e]), recovered := false }]
theorem must_yes (e : Int) (w : World) : Calls Try.prog 71 #[.bool true, .int .i64 e] w fun r w' => r = .returned (.tuple #[]) ∧ w = w' := by
  go_enter Try.func71, Try.ntmps71
  go_wp2
  go_end0
  exact ⟨rfl, rfl⟩
theorem must_no (e : Int) (w : World) : Calls Try.prog 71 #[.bool false, .int .i64 e] w fun r w' => r = stopped e ∧ w = w' := by
  go_enter Try.func71, Try.ntmps71
  go_wp2
  exact ⟨rfl, rfl, rfl⟩
theorem must_q (e : Int) (w : World) : Calls Try.prog 71 #[.bool true, .int .i64 e] w fun r w' => r = .returned (.tuple #[]) ∧ w' = w :=
  (must_yes e w).mono fun _ _ ⟨h1, h2⟩ => ⟨h1, h2.symm⟩
end Go.Proofs.Ytcjcmlnbchmnnaa
/-! ### Gr -/
namespace Go.Proofs.Ytcjcmlnbchmnnaa
open Go.RowKit

def ByteRow (w : World) (k : Nat) : Prop := ∃ cur, w.heap[k]? = some (.cells cur 5 (0, 0))
def Grew (R B : Nat) (w w' : World) : Prop := Fr (fun k => k = R ∨ (B ≤ k ∧ ByteRow w k)) w w'
theorem Grew.refl (R B : Nat) (w : World) : Grew R B w w := Fr.refl _ w
theorem Grew.of_fr {R B : Nat} {w w' : World} (h : Fr (· = R) w w') : Grew R B w w' := h.mono fun _ _ e => Or.inl e
theorem Grew.trans {R B : Nat} {a b c : World} (h : Grew R B a b) (k : Grew R B b c) : Grew R B a c := by
  refine ⟨k.os.trans h.os, k.tape.trans h.tape, k.output.trans h.output, Nat.le_trans h.size k.size, fun i hi hn => ?_, fun i q => k.rd i (h.rd i q)⟩
  have e := h.block i hi hn
  refine (k.block i (Nat.lt_of_lt_of_le hi h.size) ?_).trans e
  rintro (q | ⟨q, cur, hc⟩)
  · exact hn (Or.inl q)
  · exact hn (Or.inr ⟨q, cur, by rw [← e]; exact hc⟩)
theorem Grew.then_fr {R B : Nat} {a b c : World} (h : Grew R B a b) (k : Fr (· = R) b c) : Grew R B a c := h.trans (Grew.of_fr k)
/-- from the block on all is new: only the Reader has changed -/
theorem Grew.fr {R : Nat} {w w' : World} (h : Grew R w.heap.size w w') : Fr (· = R) w w' := h.mono fun k hk q => q.elim id fun q => by omega
theorem TableAt.grew {R B : Nat} {w w' : World} {T : Nat} {ns : List Nat} {r : Rd} (h : TableAt w T ns) (hR : RdAt w R r) (hg : Grew R B w w') : TableAt w' T ns := by
  obtain ⟨M, n, hcT, D, ⟨es, clock, q1, q2⟩, q3⟩ := h
  refine ⟨M, n, ?_, D, ⟨es, clock, ?_, q2⟩, q3⟩
  · rw [hg.block T (lt_of_block hcT)]
    · exact hcT
    · rintro (rfl | ⟨_, cur, hc⟩)
      · unfold RdAt at hR; rw [hcT] at hR; cases hR
      · rw [hcT] at hc; cases hc
  · rw [hg.block M (lt_of_block q1)]
    · exact q1
    · rintro (rfl | ⟨_, cur, hc⟩)
      · unfold RdAt at hR; rw [q1] at hR; cases hR
      · rw [q1] at hc; cases hc
theorem TableAt.fr {R : Nat} {w w' : World} {T : Nat} {ns : List Nat} {r : Rd} (h : TableAt w T ns) (hR : RdAt w R r) (hg : Fr (· = R) w w') : TableAt w' T ns := h.grew hR (Grew.of_fr (B := 0) hg)

/-- bytes that are owned from a block on -/
def OutAt (w : World) (B : Nat) (v : Value) (l : List UInt8) : Prop := w.ownsRow B 5 1 v l.length (bvals l)
theorem OutAt.nil (w : World) (B : Nat) : OutAt w B (.slice none 0 0) [] := World.ownsRow_nil w B _ 1
theorem OutAt.slice {w : World} {B : Nat} {v : Value} {l : List UInt8} (h : OutAt w B v l) : ∃ a0 cap, v = .slice a0 l.length cap ∧ (a0 = none ∧ l = [] ∨ ∃ g, a0 = some ⟨g, 0, none⟩) := by
  rcases h.2 with ⟨rfl, e⟩ | ⟨g, cap, cur, rfl, _⟩
  · exact ⟨none, 0, by rw [e], Or.inl ⟨rfl, List.eq_nil_of_length_eq_zero e⟩⟩
  · exact ⟨_, _, rfl, Or.inr ⟨g, rfl⟩⟩
theorem OutAt.row {w : World} {B : Nat} {v : Value} {l : List UInt8} (h : OutAt w B v l) (k : Nat) (hk : v.ownBlock = some k) : B ≤ k ∧ ByteRow w k := by
  rcases h.2 with ⟨rfl, _⟩ | ⟨g, cap, cur, rfl, hb, hg, _⟩
  · simp [Value.ownBlock] at hk
  · simp [Value.ownBlock] at hk; subst hk; exact ⟨hb, cur, hg⟩
theorem OutAt.kept {w w' : World} {B : Nat} {v : Value} {l : List UInt8} (h : OutAt w B v l) (hb : ∀ g, ByteRow w g → w'.heap[g]? = w.heap[g]?) : OutAt w' B v l := by
  refine ⟨h.1, ?_⟩
  rcases h.2 with hn | ⟨g, cap, cur, rfl, h1, hg, rest⟩
  · exact .inl hn
  · exact .inr ⟨g, cap, cur, rfl, h1, by rw [hb g ⟨cur, hg⟩]; exact hg, rest⟩
theorem OutAt.fr {R : Nat} {r : Rd} {w w' : World} {B : Nat} {v : Value} {l : List UInt8} (h : OutAt w B v l) (hR : RdAt w R r) (hf : Fr (· = R) w w') : OutAt w' B v l :=
  h.kept fun g ⟨_, hg⟩ => hf.block g (lt_of_block hg) (by rintro rfl; unfold RdAt at hR; rw [hg] at hR; cases hR)
theorem OutAt.below {w w' : World} {B : Nat} {v : Value} {l : List UInt8} (h : OutAt w B v l) (hb : Below w.heap.size w w') : OutAt w' B v l :=
  h.kept fun g ⟨_, hg⟩ => hb.block g (lt_of_block hg)
theorem RdAt.grown {w w' : World} {R : Nat} {r : Rd} {B : Nat} {v : Value} {l : List UInt8} (hR : RdAt w R r) (h : OutAt w B v l) (g : w.grownBy w' v.ownBlock) : RdAt w' R r := by
  unfold RdAt
  rw [g.block R hR.lt]
  · exact hR
  · intro e
    obtain ⟨_, cur, hc⟩ := h.row R e.symm
    unfold RdAt at hR; rw [hc] at hR; cases hR
theorem Grew.grown {R B : Nat} {w w1 w' : World} {v : Value} {l : List UInt8} (hg : Grew R B w w1) (h : OutAt w1 B v l) (g : w1.grownBy w' v.ownBlock) : Grew R B w w' := by
  refine hg.trans ⟨g.os, g.tape, g.output, g.size, fun k hk hn => g.block k hk fun e => hn (Or.inr (h.row k e.symm)), fun k q => q.of_block (g.block k q.lt fun e => ?_)⟩
  obtain ⟨_, cur, hc⟩ := h.row k e.symm
  obtain ⟨c, h1, _⟩ := q
  rw [hc] at h1
  injection h1 with h1
  injection h1 with _ q
  exact absurd q (by decide)
end Go.Proofs.Ytcjcmlnbchmnnaa
/-! ### IEdges -/
namespace Go.Proofs.Ytcjcmlnbchmnnaa
open Go.RowKit

/-- a new Reader's cells -/
def Rd.new (most : Int) : Rd := { s := ⟨#[]⟩, bit := 0, state := 0, last := false, left := 0, lit := .pointer none, dist := .pointer none, back := .slice none 0 0, out := .slice none 0 0, told := 0, most := most, e := 0 }
theorem new_no (most : Int) (w : World) (h : most < 0) : Calls Try.prog 28 #[.int .i64 most] w fun e w' => e = .returned (.tuple #[.pointer none, .int .i64 1]) ∧ w = w' := by
  go_enter Try.func28, Try.ntmps28
  go_wp2
  go_ret2
  exact ⟨rfl, rfl⟩
theorem new_yes (most : Int) (w : World) (h : 0 ≤ most) : Calls Try.prog 28 #[.int .i64 most] w fun e w' => e = .returned (.tuple #[.pointer (some ⟨w.heap.size, 0, none⟩), .int .i64 0]) ∧ w' = w.alloc (.cells (Rd.new most).cells 69) := by
  have h' : ¬ most < 0 := by omega
  go_enter Try.func28, Try.ntmps28
  go_wp2
  go_ret2
  exact ⟨rfl, rfl⟩
theorem done_any (R : Nat) (r : Rd) (w : World) (hR : RdAt w R r) : Calls Try.prog 30 #[.pointer (some ⟨R, 0, none⟩)] w fun e w' => e = .returned (.bool (decide (r.state = 3 ∧ r.e = 0))) ∧ w = w' := by
  have c2 := hR.state
  have c11 := hR.e
  by_cases h1 : r.state = 3
  · have q1 : (r.state == 3) = true := by simpa using h1
    by_cases h2 : r.e = 0
    · have q2 : (r.e == 0) = true := by simpa using h2
      have q3 := Lib.hid (show decide (r.state = 3 ∧ r.e = 0) = true from decide_eq_true ⟨h1, h2⟩)
      generalize decide (r.state = 3 ∧ r.e = 0) = d at *
      clear h1 h2 hR
      go_enter Try.func30, Try.ntmps30
      go_wp2
      go_ret
      exact ⟨by rw [q3.out]; rfl, rfl⟩
    · have q2 : (r.e == 0) = false := by simpa using h2
      have q3 := Lib.hid (show decide (r.state = 3 ∧ r.e = 0) = false from decide_eq_false fun q => h2 q.2)
      generalize decide (r.state = 3 ∧ r.e = 0) = d at *
      clear h1 h2 hR
      go_enter Try.func30, Try.ntmps30
      go_wp2
      go_ret
      exact ⟨by rw [q3.out]; rfl, rfl⟩
  · have q1 : (r.state == 3) = false := by simpa using h1
    have q3 := Lib.hid (show decide (r.state = 3 ∧ r.e = 0) = false from decide_eq_false fun q => h1 q.1)
    generalize decide (r.state = 3 ∧ r.e = 0) = d at *
    clear h1 hR
    go_enter Try.func30, Try.ntmps30
    go_wp2
    go_ret
    exact ⟨by rw [q3.out]; rfl, rfl⟩
theorem rest_any (R : Nat) (r : Rd) (w : World) (hR : RdAt w R r) : Calls Try.prog 31 #[.pointer (some ⟨R, 0, none⟩)] w fun e w' => e = .returned (.string (if r.state = 3 ∧ r.e = 0 then r.s else ⟨#[]⟩)) ∧ w = w' := by
  have HD := Lib.hid (done_any R r w hR)
  have c0 := hR.s
  by_cases h : r.state = 3 ∧ r.e = 0
  · have q3 : (if r.state = 3 ∧ r.e = 0 then r.s else (⟨#[]⟩ : ByteArray)) = r.s := if_pos h
    replace q3 := Lib.hid q3
    rw [decide_eq_true h] at HD
    generalize (if r.state = 3 ∧ r.e = 0 then r.s else (⟨#[]⟩ : ByteArray)) = d at *
    clear h hR
    go_enter Try.func31, Try.ntmps31
    go_wp2_with (go_at_call 30; refine HD.out.mono ?_; rintro e w' ⟨rfl, rfl⟩)
    go_ret
    exact ⟨by rw [q3.out]; rfl, rfl⟩
  · have q3 : (if r.state = 3 ∧ r.e = 0 then r.s else (⟨#[]⟩ : ByteArray)) = ⟨#[]⟩ := if_neg h
    replace q3 := Lib.hid q3
    rw [decide_eq_false h] at HD
    generalize (if r.state = 3 ∧ r.e = 0 then r.s else (⟨#[]⟩ : ByteArray)) = d at *
    clear h hR
    go_enter Try.func31, Try.ntmps31
    go_wp2_with (go_at_call 30; refine HD.out.mono ?_; rintro e w' ⟨rfl, rfl⟩)
    go_ret
    exact ⟨by rw [q3.out]; rfl, rfl⟩
theorem told_any (R : Nat) (r : Rd) (w : World) (hR : RdAt w R r) : Calls Try.prog 37 #[.pointer (some ⟨R, 0, none⟩)] w fun e w' => e = .returned (.int .i64 r.told) ∧ w = w' := by
  have c9 := hR.told
  go_enter Try.func37, Try.ntmps37
  go_wp2
  go_ret
  exact ⟨rfl, rfl⟩
end Go.Proofs.Ytcjcmlnbchmnnaa
