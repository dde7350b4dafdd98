/- Bytes of a string in a row of their own ('[]byte(s)'); farrierlaw02.turned: its contract. -/
import Derived.Test.YthdabijojboehaaBytes
import Derived.Test.YthdabijojboehaaCmTurns
import Derived.WalkLawsBesides
import Derived.RegionTactic
import Derived.BigRegion
import Derived.Outline
namespace Go.Proofs.Ythdabijojboehaa
open Go.RowKit

/-- block g holds the bytes l, and they may be written -/
def BRow (w : World) (g : Nat) (l : List UInt8) : Prop :=
  (∀ j u, (bvals l)[j]? = some u → w.cell? ⟨g, j, none⟩ = some u) ∧ ∀ j, j < l.length → w.frozen? ⟨g, j, none⟩ = false
theorem BRow.cell {w : World} {g : Nat} {l : List UInt8} (h : BRow w g l) (k : Nat) (hk : k < l.length) : w.cell? ⟨g, k, none⟩ = some (.int .u8 (l[k].toNat : Int)) :=
  h.1 k _ (bvals_get l k hk)
theorem BRow.drew {w : World} {g : Nat} {l : List UInt8} (h : BRow w g l) : BRow w.drew g l := h
theorem BRow.set {w : World} {g : Nat} {l : List UInt8} (h : BRow w g l) (k : Nat) (c : UInt8) : BRow (w.setCell ⟨g, k, none⟩ (.int .u8 (c.toNat : Int))) g (l.set k c) := by
  refine ⟨fun j u hj => ?_, fun j hj => by rw [World.frozen?_setCell]; exact h.2 j (by simpa using hj)⟩
  by_cases e : k = j
  · subst e
    have hk : k < l.length := by
      have := (List.getElem?_eq_some_iff.1 hj).1
      simpa [bvals] using this
    rw [World.cell?_setCell_same _ _ _ (h.cell k hk)]
    rw [← hj, ← bvals_set, List.getElem?_set_self (by simpa [bvals] using hk)]
  · rw [World.cell?_setCell_other _ _ _ _ (by intro h; injection h with _ h2 _; exact e h2)]
    apply h.1
    rw [← hj, ← bvals_set, List.getElem?_set_ne e]
theorem BRow.conv {w : World} {g n : Nat} {l : List UInt8} (h : BRow w g l) (hl : l.length = n) (cap : Nat) :
    (convert 36 9 (.slice (some ⟨g, 0, none⟩) n cap)).run Try.prog w = .ok (.string ⟨l.toArray⟩) w :=
  conv_cells w _ n cap l hl (fun j u hj => by
    have e : ((⟨g, 0, none⟩ : Addr).add j) = ⟨g, j, none⟩ := by simp only [Addr.add]; split <;> simp_all
    rw [e]; exact h.1 j u hj)
theorem BRow.made (w : World) (s : ByteArray) (cap : Nat) :
    BRow (w.alloc (.cells (bytesRow s cap) 5 ((bytesRow s cap).size, (bytesRow s cap).size + 1))) w.heap.size s.data.toList := by
  have hz : s.data.toList.length ≤ (bytesRow s cap).size := by simp [bytesRow]
  refine ⟨fun j u hj => ?_, fun j hj => ?_⟩
  · rw [World.cell?_alloc_mark]
    have hlt := (List.getElem?_eq_some_iff.1 hj).1
    rw [bvals_length] at hlt
    rw [← hj, bytesRow, Array.getElem?_append_left (by simpa using hlt)]
    simp [bvals]
  · have hb : (w.alloc (.cells (bytesRow s cap) 5 ((bytesRow s cap).size, (bytesRow s cap).size + 1))).heap[w.heap.size]? = some (.cells (bytesRow s cap) 5 ((bytesRow s cap).size, (bytesRow s cap).size + 1)) := heap_alloc_new w _
    simp only [World.frozen?, hb]
    simp
    omega
theorem u8_xor (a b : UInt8) : bits .xor .u8 (a.toNat : Int) (b.toNat : Int) = ((a ^^^ b).toNat : Int) := by
  have := u8_xor_nat a.toNat b.toNat (Cm.byte_lt a) (Cm.byte_lt b)
  rw [this, UInt8.toNat_xor]
theorem get_list (s : ByteArray) (k : Nat) (h : k < s.size) : s.data.toList[k]'(by rw [Cm.len_list]; exact h) = s[k] := rfl

set_option maxHeartbeats 400000 in
theorem turned_any (a b : ByteArray) (w : World) (hs : a.size ≤ maxLen) (hab : a.size = b.size) :
    Calls Try.prog 21 #[.string a, .string b] w fun e w' => e = .returned (.string ⟨(Cm.xorL a.data.toList b.data.toList).toArray⟩) ∧ Below w.heap.size w w' := by
  unfold maxLen at hs
  have HAB := Lib.hid hab
  have hbs : b.size ≤ 9223372036854775807 := by omega
  have HL : Hid (a.data.toList.length = b.data.toList.length) := by
    show _ = _
    rw [Cm.len_list, Cm.len_list, hab]
  clear hab
  have hcv := fun w s => run_bytes_of_string (P := Try.prog) w 9 36 5 s Try.underlying9 Try.underlying36 Try.underlying5
  go_enter Try.func21, Try.ntmps21
  go_wp2
  clear hcv
  generalize grownCap w a.size 0 5 = cap
  have hrow := (BRow.made w a cap).drew
  have hbel := ((Below.refl w.heap.size w).alloc (Nat.le_refl _) (.cells (bytesRow a cap) 5 ((bytesRow a cap).size, (bytesRow a cap).size + 1))).drew
  go_loopw [6] (fun i wr => ∃ k : Nat, k ≤ a.size ∧ i = .int .i64 k ∧ BRow wr w.heap.size (Cm.xorTo a.data.toList b.data.toList k) ∧ Below w.heap.size w wr) (fun i _ => a.size - (intOf i).toNat)
  case atStart => exact ⟨0, by omega, rfl, by rw [Cm.xorTo_zero]; exact hrow, hbel⟩
  case round =>
    clear hrow hbel
    obtain ⟨k, hk, rfl, hrow, hbel⟩ := hrel
    have hlen := Cm.xorTo_length _ _ k HL.out (by rw [Cm.len_list]; exact hk)
    rw [Cm.len_list] at hlen
    have HLEN := Lib.hid hlen
    clear hlen
    by_cases hlt : k < a.size
    · have hlt' : k < b.size := by have := HAB.out; omega
      have hc := hrow.cell k (by have := HLEN.out; omega)
      have hf := hrow.2 k (by have := HLEN.out; omega)
      have hg := Cm.xorTo_get _ _ k HL.out (by rw [Cm.len_list]; exact hlt)
      rw [List.getElem?_eq_getElem (by have := HLEN.out; omega), Option.some.injEq, get_list _ _ hlt] at hg
      rw [hg] at hc
      have HS := Lib.hid (Cm.xorTo_step _ _ k HL.out (by rw [Cm.len_list]; exact hlt))
      clear hg
      have a1 : (0 : Int) ≤ (k : Int) := by omega
      have a2 : (k : Int) < (a.size : Int) := by omega
      have a3 : (k : Int) < (b.size : Int) := by omega
      go_wp2
      go_region
      all_goals
        go_wp2
        go_roundw
        case rel =>
          refine ⟨k + 1, by omega, by go_num, ?_, ?_⟩
          · rw [← HS.out, get_list _ _ hlt, get_list _ _ hlt', u8_xor]
            exact (hrow.set k _).drew
          · exact (hbel.setCell (Nat.le_refl _) _).drew
        case measure => simp [intOf]; omega
    · have hcv := hrow.conv HLEN.out cap
      go_wp2
      go_ret
      refine ⟨ret_str ?_, hbel⟩
      obtain rfl : k = a.size := by omega
      rw [← Cm.len_list, Cm.xorTo_all _ _ HL.out]
end Go.Proofs.Ythdabijojboehaa
