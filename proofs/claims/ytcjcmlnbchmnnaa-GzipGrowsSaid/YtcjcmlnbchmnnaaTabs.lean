/- Maps keyed by a code (bits and length): what one holds, as a function; made, written, asked. -/
import Derived.Test.YtcjcmlnbchmnnaaProg
import Derived.WalkKit
import Derived.ProofKit
import Derived.Maps.Own
import Derived.Maps.OwnOps
import Derived.Maps.OwnSet
import Derived.Maps.Views
namespace Go.Proofs.Ytcjcmlnbchmnnaa
open Go.RowKit Go.Maps

theorem laidOut : laidOutB Try.prog = true := by kernel_rfl
set_option maxRecDepth 100000 in
theorem codeRow : (113 : TypeId) < Try.prog.types.size := of_decide_eq_true (by kernel_rfl)
theorem codeWide : (match Try.prog.underlying 113 with | some (.array _ _) | some (.struct _) => true | _ => false) = true := by kernel_rfl
set_option maxRecDepth 100000 in
theorem codeKeyed : Keyed Try.prog 113 := Keyed.of_law (deep_law_laid laidOut (m := 2) (by omega) codeRow (by kernel_rfl) codeWide)
theorem codeType : Try.prog.keyType 113 = true := by kernel_rfl
theorem codeCells : Try.prog.cellsOf 113 = 2 := by kernel_rfl
theorem intCells : Try.prog.cellsOf 3 = 1 := by kernel_rfl
theorem zeroInt (w : World) : (zeroValue 3).run Try.prog w = .ok (.int .i64 0) w := by kernel_rfl

/-- what the key of a code reads as -/
def kl (a b : Int) : Lit := .string (keyBytes [.int .i64 a, .int .i64 b])
theorem wf64 {a : Int} (h0 : -9223372036854775808 ≤ a) (h1 : a ≤ 9223372036854775807) : (Lit.int .i64 a).wf = true := WalkArith.wf_i64 ⟨h0, h1⟩
theorem keyOf_code {a b : Int} (ha : (Lit.int .i64 a).wf = true) (hb : (Lit.int .i64 b).wf = true) : keyOf Try.prog 113 (.agg #[.int .i64 a, .int .i64 b]) = some (kl a b) := by
  obtain ⟨m, hm⟩ : ∃ m, Try.prog.types.size = m + 1 := Nat.exists_eq_succ_of_ne_zero (Nat.ne_of_gt (Nat.lt_of_le_of_lt (Nat.zero_le _) codeRow))
  have hl : Try.prog.keyLits (Try.prog.types.size + 1) 113 [.int .i64 a, .int .i64 b] = some [.int .i64 a, .int .i64 b] := by
    rw [hm]
    simp [Program.keyLits, Try.underlying113, Try.underlying3, codeCells, intCells, ha, hb]
  have hf : (Value.agg #[.int .i64 a, .int .i64 b]).formed Try.prog 113 = true := by simp [Value.formed, Try.underlying113, codeCells]
  unfold keyOf
  rw [Try.underlying113]
  simp only [codeType, hf, Bool.and_self, if_true]
  show ((Try.prog.keyLits (Try.prog.types.size + 1) 113 [.int .i64 a, .int .i64 b]).map fun ls => Lit.string (keyBytes ls)) = _
  rw [hl]; rfl
theorem kl_inj {a b c d : Int} (ha : (Lit.int .i64 a).wf = true) (hb : (Lit.int .i64 b).wf = true) (hc : (Lit.int .i64 c).wf = true) (hd : (Lit.int .i64 d).wf = true) (h : kl a b = kl c d) : a = c ∧ b = d := by
  have := codeKeyed.inj (keyOf_code ha hb) (by rw [keyOf_code hc hd, h])
  simpa using this
theorem kl_key (a b : Int) : WideAt.IsKeyLit (kl a b) := trivial

/-- block B is a map of at most n entries that holds, at the code of bits a and length b, what f says -/
def Tab (w : World) (B n : Nat) (f : Int → Int → Option Int) : Prop :=
  ∃ D : DataW Unit, w.ownsMap Try.prog 113 (plainElem Try.prog 3) B n D ∧
    ∀ a b, (Lit.int .i64 a).wf = true → (Lit.int .i64 b).wf = true → Maps.has D (kl a b) = (f a b).isSome ∧ D.atKey (kl a b) (.lit (.int .i64 0)) = .lit (.int .i64 ((f a b).getD 0))
theorem Tab.made (w : World) : Tab (w.alloc (.map #[] 0)) w.heap.size 0 fun _ _ => none :=
  ⟨.map [], World.ownsMap_made _ _ _ _, fun _ _ _ _ => ⟨rfl, rfl⟩⟩
def upd (f : Int → Int → Option Int) (a b v : Int) : Int → Int → Option Int := fun c d => if c = a ∧ d = b then some v else f c d
theorem Tab.lt {w : World} {B n : Nat} {f : Int → Int → Option Int} (h : Tab w B n f) : B < w.heap.size := let ⟨_, h1, _⟩ := h; h1.lt
theorem Tab.drew {w : World} {B n : Nat} {f : Int → Int → Option Int} (h : Tab w B n f) : Tab w.drew B n f := let ⟨D, h1, h2⟩ := h; ⟨D, h1.drew, h2⟩
theorem Tab.kept {w w' : World} {B n : Nat} {f : Int → Int → Option Int} {row : Option Nat} (h : Tab w B n f) (hg : w.grownBy w' row) (hne : some B ≠ row) : Tab w' B n f :=
  let ⟨D, h1, h2⟩ := h; ⟨D, h1.kept hg hne, h2⟩
theorem Tab.alloc {w : World} {B n : Nat} {f : Int → Int → Option Int} (h : Tab w B n f) (o : Obj) : Tab (w.alloc o) B n f := let ⟨D, h1, h2⟩ := h; ⟨D, h1.alloc o, h2⟩
theorem Tab.setCell {w : World} {B n : Nat} {f : Int → Int → Option Int} (h : Tab w B n f) {a : Addr} (ha : B ≠ a.block) (u : Value) : Tab (w.setCell a u) B n f := let ⟨D, h1, h2⟩ := h; ⟨D, h1.setCell ha u, h2⟩
theorem Tab.mono {w : World} {B n n' : Nat} {f : Int → Int → Option Int} (h : Tab w B n f) (hn : n ≤ n') : Tab w B n' f := let ⟨D, h1, h2⟩ := h; ⟨D, h1.mono hn, h2⟩
theorem Tab.congr {w : World} {B n : Nat} {f g : Int → Int → Option Int} (h : Tab w B n f) (hfg : ∀ a b, f a b = g a b) : Tab w B n g := by
  obtain rfl : f = g := funext fun a => funext fun b => hfg a b
  exact h
theorem Tab.below {w w' : World} {B n : Nat} {f : Int → Int → Option Int} (h : Tab w B n f) (hb : Below w.heap.size w w') : Tab w' B n f := by
  have hlt := h.lt
  obtain ⟨D, ⟨es, clock, h1, h2⟩, h3⟩ := h
  exact ⟨D, ⟨es, clock, by rw [hb.block B hlt]; exact h1, h2⟩, h3⟩
theorem Tab.put {w : World} {B n : Nat} {f : Int → Int → Option Int} (h : Tab w B n f) (hn : n < maxLen) {a b v : Int} (ha : (Lit.int .i64 a).wf = true) (hb : (Lit.int .i64 b).wf = true) (hv : (Lit.int .i64 v).wf = true) :
    ∃ w', (Instr.mapUpdate 109 (.map (some B)) (.agg #[.int .i64 a, .int .i64 b]) (.int .i64 v)).run Try.prog w = .ok () w' ∧ Tab w' B (n + 1) (upd f a b v) ∧ w.grownBy w' (some B) := by
  obtain ⟨D, h1, h2⟩ := h
  obtain ⟨w', hrun, h3, h4⟩ := h1.update codeKeyed Try.underlying109 hn (keyOf_code ha hb) (plainElem_int Try.underlying3 hv)
  refine ⟨w', hrun, ⟨_, h3, fun c d hc hd => ?_⟩, h4⟩
  unfold upd
  by_cases e : c = a ∧ d = b
  · obtain ⟨rfl, rfl⟩ := e
    rw [if_pos ⟨rfl, rfl⟩]
    exact ⟨has_put_same h1.isMap (kl_key _ _) _, atKey_put_same h1.isMap (kl_key _ _) _ _⟩
  · rw [if_neg e]
    have hne : kl c d ≠ kl a b := fun h => e (kl_inj hc hd ha hb h)
    rw [has_put_other hne, atKey_put_other hne]
    exact h2 c d hc hd
theorem Tab.look {w : World} {B n : Nat} {f : Int → Int → Option Int} (h : Tab w B n f) {a b : Int} (ha : (Lit.int .i64 a).wf = true) (hb : (Lit.int .i64 b).wf = true) :
    (Instr.lookup 109 (.map (some B)) (.agg #[.int .i64 a, .int .i64 b]) true).run Try.prog w = .ok (.tuple #[.int .i64 ((f a b).getD 0), .bool (f a b).isSome]) w := by
  obtain ⟨D, h1, h2⟩ := h
  obtain ⟨v, ps, hrun, hv⟩ := h1.look_ok codeKeyed Try.underlying109 (zeroInt w) (plainElem_int Try.underlying3 (by decide)) (keyOf_code ha hb)
  obtain ⟨c, rfl, hc, hwc⟩ := plainElem_int_inv Try.underlying3 hv
  obtain ⟨g1, g2⟩ := h2 a b ha hb
  simp only [Prod.mk.injEq] at hc
  rw [g2] at hc
  have hce : (f a b).getD 0 = c := by simpa using hc.1
  rw [hrun, g1, hce]
end Go.Proofs.Ytcjcmlnbchmnnaa
