/- the reference's Same: are the numbers the same: its contract. -/
import Derived.Test.YtlhoahnjedpgaaaSl
import Derived.Deep.QuietTactic
import Derived.BigQuiet
import Derived.Deep.OwnRows
namespace Go.Proofs.Ytlhoahnjedpgaaa
open Go.RowKit

theorem take_succ_eq {a b : List Int} {k : Nat} {x : Int} (h : a.take k = b.take k) (ha : a[k]? = some x) (hb : b[k]? = some x) : a.take (k + 1) = b.take (k + 1) := by
  rw [List.take_add_one, List.take_add_one, h, ha, hb]

set_option maxHeartbeats 400000 in
theorem same_any (ao bo : Option Addr) (ca cb : Nat) (xs ys : List Int) (w : World) (ha : SInts w ao xs) (hb : SInts w bo ys) (hm : xs.length ≤ maxLen) :
    Calls Try.prog 11 #[.slice ao xs.length ca, .slice bo ys.length cb] w fun e w' => e = .returned (.bool (decide (xs = ys))) ∧ Below w.heap.size w w' := by
  unfold maxLen at hm
  by_cases hl : xs.length = ys.length
  · have hl' : ((xs.length : Int) != (ys.length : Int)) = false := by simp [hl]
    have HL := Lib.hid hl
    clear hl
    go_enter Try.func11, Try.ntmps11
    go_wp2
    go_loopw [5] (fun i wr => ∃ k : Nat, k ≤ xs.length ∧ i = .int .i64 k ∧ xs.take k = ys.take k ∧ Below w.heap.size w wr) (fun i _ => xs.length - (intOf i).toNat)
    case atStart => exact ⟨0, by omega, rfl, rfl, Below.refl _ _⟩
    case round =>
      obtain ⟨k, hk, rfl, ht, hbel⟩ := hrel
      have HT := Lib.hid ht
      clear ht
      by_cases hlt : k < xs.length
      · have hlt2 : k < ys.length := by have := HL.out; omega
        obtain ⟨b1, o1, hix1, hc1, hbl1⟩ := ha.at k _ (List.getElem?_eq_getElem hlt) ca
        obtain ⟨b2, o2, hix2, hc2, hbl2⟩ := hb.at k _ (List.getElem?_eq_getElem hlt2) cb
        have g1 := (hbel.cell (p := ⟨b1, o1, none⟩) hbl1).trans hc1
        have g2 := (hbel.cell (p := ⟨b2, o2, none⟩) hbl2).trans hc2
        have HA := Lib.hid (List.getElem?_eq_getElem hlt)
        have HB := Lib.hid (List.getElem?_eq_getElem hlt2)
        generalize xs[k] = x at *
        generalize ys[k] = y at *
        clear hc1 hc2
        by_cases hxy : x = y
        · subst hxy
          go_wp2
          go_quiet (fail)
          clear hix1 hix2
          go_wp2
          go_roundw
          case rel => exact ⟨k + 1, by omega, by go_num, take_succ_eq HT.out HA.out HB.out, below_drewN hbel _⟩
          case measure => simp [intOf]; omega
        · have hne : (x != y) = true := by rw [bne_iff_ne]; exact hxy
          have HD : Hid (decide (xs = ys) = false) := by
            show _ = _
            rw [decide_eq_false_iff_not]
            intro e
            have h1 := HA.out; rw [e, HB.out] at h1
            exact hxy (by injection h1 with h1; exact h1.symm)
          clear hxy
          go_wp2
          go_quiet (fail)
          clear hix1 hix2
          go_wp2
          go_ret
          exact ⟨by rw [HD.out]; rfl, below_drewN hbel _⟩
      · have HD : Hid (decide (xs = ys) = true) := by
          show _ = _
          rw [decide_eq_true_iff]
          have h1 := HT.out
          rw [List.take_of_length_le (by omega), List.take_of_length_le (by have := HL.out; omega)] at h1
          exact h1
        go_wp2
        go_ret
        exact ⟨by rw [HD.out]; rfl, hbel⟩
  · have hl' : ((xs.length : Int) != (ys.length : Int)) = true := by rw [bne_iff_ne]; omega
    have HD : Hid (decide (xs = ys) = false) := by show _ = _; rw [decide_eq_false_iff_not]; intro e; exact hl (by rw [e])
    clear hl
    go_enter Try.func11, Try.ntmps11
    go_wp2
    go_ret
    exact ⟨by rw [HD.out]; rfl, Below.refl _ _⟩
/-- a row of ints, as a slice -/
theorem sints_row {w : World} {g n : Nat} {f : Nat → Int} {ls : List Int} {t : TypeId} (h : w.rowIs g t n (fun i => .int .i64 (f i))) (hl : ∀ (j : Nat) (x : Int), ls[j]? = some x → j < n ∧ x = f j) : SInts w (some ⟨g, 0, none⟩) ls := fun j x hj => by
  obtain ⟨h1, rfl⟩ := hl j x hj
  exact ⟨g, 0, rfl, by rw [Nat.zero_add]; exact h.cell h1⟩
theorem sints_lit (w : World) (vs : Array Value) (T : TypeId) (ls : List Int) (h : vs.toList = ls.map (Value.int .i64)) : SInts (w.alloc (.cells vs T)) (some ⟨w.heap.size, 0, none⟩) ls := fun j x hj => by
  refine ⟨w.heap.size, 0, rfl, ?_⟩
  rw [Nat.zero_add, cell_of_row _ _ _ vs T (0, 0) (heap_alloc_new w _), ← Array.getElem?_toList, h, List.getElem?_map, hj]; rfl
end Go.Proofs.Ytlhoahnjedpgaaa
