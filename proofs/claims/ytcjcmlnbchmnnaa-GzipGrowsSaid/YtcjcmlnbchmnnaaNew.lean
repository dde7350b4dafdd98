/- huff.New: a table that reads symbols: its contract. -/
import Derived.Test.YtcjcmlnbchmnnaaCodes
import Derived.Test.YtcjcmlnbchmnnaaTabs
namespace Go.Proofs.Ytcjcmlnbchmnnaa
open Go.RowKit

/-- a table on numbers from 0 on, as Go's ints ask it -/
def lift (f : Nat → Nat → Option Int) (a b : Int) : Option Int := if 0 ≤ a ∧ 0 ≤ b then f a.toNat b.toNat else none
theorem lift_nat (f : Nat → Nat → Option Int) (a b : Nat) : lift f a b = f a b := by unfold lift; rw [if_pos ⟨by omega, by omega⟩]; simp
theorem lift_none (a b : Int) : lift (fun _ _ => none) a b = none := by unfold lift; split <;> rfl
theorem lift_upd (f : Nat → Nat → Option Int) (a b : Nat) (v : Int) (c d : Int) : upd (lift f) a b v c d = lift (Hm.upd f a b v) c d := by
  unfold upd lift Hm.upd
  by_cases h : 0 ≤ c ∧ 0 ≤ d
  · rw [if_pos h, if_pos h]
    by_cases e : c = a ∧ d = b
    · rw [if_pos e, if_pos (by omega)]
    · rw [if_neg e, if_neg (by omega)]
  · rw [if_neg h, if_neg h, if_neg (by omega)]
/-- block T is a table of the codes of these lengths -/
def TableAt (w : World) (T : Nat) (ns : List Nat) : Prop := ∃ M n, w.heap[T]? = some (.cells #[.map (some M)] 111 (0, 0)) ∧ Tab w M n (lift (Hm.tab ns))
theorem TableAt.lt {w : World} {T : Nat} {ns : List Nat} (h : TableAt w T ns) : T < w.heap.size := let ⟨_, _, h1, _⟩ := h; lt_of_block h1
theorem TableAt.below {w w' : World} {T : Nat} {ns : List Nat} (h : TableAt w T ns) (hb : Below w.heap.size w w') : TableAt w' T ns :=
  let ⟨M, n, h1, h2⟩ := h; ⟨M, n, by rw [hb.block T (lt_of_block h1)]; exact h1, h2.below hb⟩
def NewIn (ns : List Nat) (w : World) (e : Ending) (w' : World) : Prop :=
  ∃ T, w.heap.size ≤ T ∧ e = .returned (.tuple #[.pointer (some ⟨T, 0, none⟩), .int .i64 0]) ∧ TableAt w' T ns ∧ Below w.heap.size w w'

set_option maxRecDepth 100000 in
set_option maxHeartbeats 1000000 in
theorem new_in (ao : Option Addr) (cap : Nat) (ns : List Nat) (w : World) (hs : SInts w ao (ints ns)) (hsh : Hm.Short ns) (hl : ns.length ≤ 288) (herr : Hm.err ns = 0) (hsr : Hm.share ns ≤ 32768) :
    Calls Try.prog 83 #[.slice ao ns.length cap] w (NewIn ns w) := by
  have hmm := @run_makeMap Try.prog
  go_enter Try.func83, Try.ntmps83
  go_wp2_with fail
  refine (codes_in ao cap ns w hs hsh hl herr hsr).mono ?_
  rintro e w1 ⟨g, hg, rfl, hrow, hb1⟩
  clear herr
  go_wp2_with fail
  clear hmm
  have ht0 := (Tab.made w1).congr (g := lift (Hm.tabTo ns 0)) (fun a b => (lift_none a b).symm)
  have ht1 := ht0.alloc (.cells #[.map (some w1.heap.size)] 111)
  have hr1 := (hrow.alloc (.map #[] 0)).alloc (.cells #[.map (some w1.heap.size)] 111)
  have hb2 := (hb1.alloc hb1.size (.map #[] 0)).alloc (by simp; have := hb1.size; omega) (.cells #[.map (some w1.heap.size)] 111)
  have hc1 : ((w1.alloc (.map #[] 0)).alloc (.cells #[.map (some w1.heap.size)] 111)).heap[w1.heap.size + 1]? = some (.cells #[.map (some w1.heap.size)] 111 (0, 0)) := by
    have := heap_alloc_new (w1.alloc (.map #[] 0)) (.cells #[.map (some w1.heap.size)] 111)
    simpa using this
  have hgM := hrow.lt
  have hM := hb1.size
  generalize w1.heap.size = M at *
  clear ht0 hrow
  go_loopw [23, 7, 8, 9] (fun j _ _ _ wr => ∃ i : Nat, i ≤ ns.length ∧ j = .int .i64 i ∧ wr.heap[M + 1]? = some (.cells #[.map (some M)] 111 (0, 0)) ∧ Tab wr M (16 * i) (lift (Hm.tabTo ns i)) ∧ wr.rowIs g 3 ns.length (cdf ns) ∧ Below w.heap.size w wr) (fun j _ _ _ _ => ns.length - (intOf j).toNat)
  case atStart => exact ⟨0, by omega, rfl, hc1, ht1, hr1, hb2⟩
  case round =>
    clear ht1 hr1 hb2 hc1
    obtain ⟨i, hi, rfl, hcM, htab, hrow, hbel⟩ := hrel
    by_cases hlt : i < ns.length
    · obtain ⟨b, o, hix, hc, hbl⟩ := hs.atN i hlt cap
      have hcr := (hbel.cell (p := ⟨b, o, none⟩) hbl).trans hc
      have hcc : wr.cell? ⟨g, i, none⟩ = some (.int .i64 (Hm.code ns i : Nat)) := hrow.cell (i := i) hlt
      have hl15 := Hm.len_le hsh i
      have hcd := Hm.code_lt_max hsh hsr i
      have HT : Hid (Hm.tabTo ns (i + 1) = if Hm.len ns i = 0 then Hm.tabTo ns i else Hm.ins (Hm.tabTo ns i) (Hm.code ns i) (Hm.len ns i) i) := rfl
      generalize Hm.tabTo ns i = F at *
      generalize Hm.len ns i = L at *
      generalize Hm.code ns i = c at *
      have hc0 := hc
      clear hc
      by_cases hz0 : L = 0
      · subst hz0
        go_wp2
        go_roundw
        case rel => exact ⟨i + 1, by omega, by go_num, hcM, by rw [HT.out, if_pos rfl]; exact htab.mono (by omega), hrow, hbel⟩
        case measure => simp [intOf]; omega
      · have hz1 : ((L : Int) == 0) = false := by simp; omega
        obtain ⟨wo, rfl⟩ : ∃ wo : World, wo = wr := ⟨_, rfl⟩
        have hne1 : ¬ (M = b) := by omega
        have hne2 : ¬ (M + 1 = b) := by omega
        go_wp2
        go_loopw [9] (fun j wr => ∃ k : Nat, k ≤ L ∧ j = .int .i64 k ∧ wr.heap[M + 1]? = some (.cells #[.map (some M)] 111 (0, 0)) ∧ Tab wr M (16 * i + k) (lift (Hm.insP F c L k)) ∧ wr.rowIs g 3 ns.length (cdf ns) ∧ Below w.heap.size w wr) (fun j _ => L - (intOf j).toNat)
        case atStart => exact ⟨0, by omega, rfl, hcM, htab, hrow, hbel⟩
        case round =>
          clear hcM htab hrow hbel hcr hcc
          obtain ⟨k, hk, rfl, hcM, htab, hrow, hbel⟩ := hrel
          have hcr := (hbel.cell (p := ⟨b, o, none⟩) hbl).trans hc0
          have hcT : wr.cell? ⟨M + 1, 0, none⟩ = some (.map (some M)) := by rw [cell_of_row _ _ _ _ _ _ hcM]; rfl
          by_cases hlt2 : k < L
          · have a1 : IntKind.i64.wrap ((L : Int) - (k : Int)) = (L : Int) - (k : Int) := IntWalk.i64_in _ (by omega)
            have a2 : ¬ (L : Int) - (k : Int) < 0 := by omega
            have a3 : ((L : Int) - (k : Int)).toNat = L - k := by omega
            have hdv := Nat.div_le_self c (2 ^ (L - k))
            have eX : (c : Int) / 2 ^ (L - k) = ((c / 2 ^ (L - k) : Nat) : Int) := by simp
            have HI : Hid (Hm.insP F c L (k + 1) = Hm.upd (Hm.insP F c L k) (c / 2 ^ (L - k)) k (-1)) := rfl
            generalize c / 2 ^ (L - k) = x at *
            obtain ⟨w9, hrun, htab9, hgrow9⟩ := htab.drew.put (by unfold maxLen; omega) (a := (x : Int)) (b := (k : Int)) (v := -1) (wf64 (by omega) (by omega)) (wf64 (by omega) (by omega)) (by decide)
            have ht9 := htab9.congr (lift_upd (Hm.insP F c L k) x k (-1))
            have hr9 := hrow.of_block (w' := w9) (by rw [hgrow9.block g (by show g < wr.heap.size; exact hrow.lt) (by intro h; injection h; omega)]; rfl)
            have hc9 : w9.heap[M + 1]? = some (.cells #[.map (some M)] 111 (0, 0)) := by
              rw [hgrow9.block (M + 1) (lt_of_block hcM) (by intro h; injection h; omega)]; exact hcM
            have hb9 := hbel.drew.grown hgrow9 hbel.size (fun q hq => by injection hq; omega)
            clear htab9 hgrow9
            go_wp2
            go_region
            clear hrun eX a1 a3
            go_wp2
            go_roundw
            case rel => exact ⟨k + 1, by omega, by go_num, hc9, by rw [HI.out]; exact ht9, hr9, hb9⟩
            case measure => simp [intOf]; omega
          · obtain rfl : k = L := by omega
            obtain ⟨w9, hrun, htab9, hgrow9⟩ := htab.drew.put (by unfold maxLen; omega) (a := (c : Int)) (b := (k : Int)) (v := (i : Int)) (wf64 (by omega) (by omega)) (wf64 (by omega) (by omega)) (wf64 (by omega) (by omega))
            have ht9 := htab9.congr (lift_upd (Hm.insP F c k k) c k i)
            have hr9 := hrow.of_block (w' := w9) (by rw [hgrow9.block g (by show g < wr.heap.size; exact hrow.lt) (by intro h; injection h; omega)]; rfl)
            have hc9 : w9.heap[M + 1]? = some (.cells #[.map (some M)] 111 (0, 0)) := by
              rw [hgrow9.block (M + 1) (lt_of_block hcM) (by intro h; injection h; omega)]; exact hcM
            have hb9 := hbel.drew.grown hgrow9 hbel.size (fun q hq => by injection hq; omega)
            clear htab9 hgrow9
            go_wp2
            go_region
            clear hrun
            go_wp2
            go_roundw
            case rel => exact ⟨i + 1, by omega, by go_num, hc9, by rw [HT.out, if_neg hz0]; exact ht9.mono (by omega), hr9, hb9⟩
            case measure => simp [intOf]; omega
    · obtain rfl : i = ns.length := by omega
      go_wp2
      go_ret2
      exact ⟨M + 1, by omega, rfl, ⟨M, _, hcM, htab⟩, hbel⟩
theorem new_err (ao : Option Addr) (cap : Nat) (ns : List Nat) (w : World) (hs : SInts w ao (ints ns)) (hsh : Hm.Short ns) (hl : ns.length ≤ 288) (herr : Hm.err ns ≠ 0) :
    Calls Try.prog 83 #[.slice ao ns.length cap] w fun e w' => e = .returned (.tuple #[.pointer none, .int .i64 (Hm.err ns)]) ∧ Below w.heap.size w w' := by
  have herr' : (Hm.err ns != 0) = true := by rw [bne_iff_ne]; exact herr
  go_enter Try.func83, Try.ntmps83
  go_wp2_with fail
  refine (codes_err ao cap ns w hs hsh hl herr).mono ?_
  rintro e w1 ⟨rfl, hb1⟩
  clear herr
  generalize hee : Hm.err ns = er at *
  have HEE := Lib.hid hee
  clear hee
  go_wp2_with fail
  go_ret2
  exact ⟨by rw [HEE.out]; rfl, hb1⟩
theorem new_out (ao : Option Addr) (cap : Nat) (ls : List Int) (w : World) (hs : SInts w ao ls) (hm : ls.length ≤ maxLen) (hbad : BadL ls) :
    Calls Try.prog 83 #[.slice ao ls.length cap] w fun e w' => e = .returned (.tuple #[.pointer none, .int .i64 80]) ∧ Below w.heap.size w w' := by
  go_enter Try.func83, Try.ntmps83
  go_wp2_with fail
  refine (codes_out ao cap ls w hs hm hbad).mono ?_
  rintro e w1 ⟨rfl, hb1⟩
  go_wp2_with fail
  go_ret2
  exact ⟨rfl, hb1⟩
end Go.Proofs.Ytcjcmlnbchmnnaa
