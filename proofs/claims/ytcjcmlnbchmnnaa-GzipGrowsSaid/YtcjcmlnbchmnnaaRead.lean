/- (*huff.Table).Read: the symbol at a bit: its contract. -/
import Derived.Test.YtcjcmlnbchmnnaaNew
import Derived.Test.YtcjcmlnbchmnnaaPl
import Derived.Deep.LoopGhost
namespace Go.Proofs.Ytcjcmlnbchmnnaa
open Go.RowKit

def tri (p : Int × Int × Int) : Value := .tuple #[.int .i64 p.1, .int .i64 p.2.1, .int .i64 p.2.2]

theorem bit_next (c : Nat) (s : ByteArray) (bt : Nat) (h : bt / 8 < s.size) (hc : c < 65536) :
    bits BinOp.or IntKind.i64 ((c : Int) * 2) (wrap64 (bits BinOp.and IntKind.u8 ((s[bt / 8].toNat : Int) / 2 ^ (bt % 8)) 1)) = ((2 * c + Hm.bitOf s.data.toList bt : Nat) : Int) := by
  have e0 : s.data.toList.getD (bt / 8) 0 = s[bt / 8] := by
    rw [List.getD_eq_getElem?_getD, List.getElem?_eq_getElem (by rw [Array.length_toList]; exact h)]; rfl
  unfold Hm.bitOf
  rw [e0]
  have hb := Cm.byte_lt s[bt / 8]
  have e1 : (s[bt / 8].toNat : Int) / 2 ^ (bt % 8) = ((s[bt / 8].toNat / 2 ^ (bt % 8) : Nat) : Int) := by simp
  have hd := Nat.div_le_self s[bt / 8].toNat (2 ^ (bt % 8))
  rw [e1]
  generalize s[bt / 8].toNat / 2 ^ (bt % 8) = y at *
  have e2 := u8_and_nat y 1 (by omega) (by omega)
  rw [nat_mask1] at e2
  rw [show (1 : Int) = ((1 : Nat) : Int) from rfl, e2, IntWalk.wrap64_in _ ⟨by omega, by omega⟩, show (c : Int) * 2 = ((2 * c : Nat) : Int) from by omega, bits_or_i64 _ _ (by omega) (by omega)]
  rw [nat_join 1 _ _ (by omega) (by omega)]

set_option maxRecDepth 100000 in
set_option maxHeartbeats 1000000 in
theorem read_in (T : Nat) (ns : List Nat) (s : ByteArray) (bit : Nat) (w : World) (ht : TableAt w T ns) (hsh : Hm.Short ns) (hs : s.size ≤ 281474976710656) (hbit : bit ≤ 9223372036854775807) :
    Calls Try.prog 86 #[.pointer (some ⟨T, 0, none⟩), .string s, .int .i64 bit] w fun e w' => e = .returned (tri (Hm.read ns s.data.toList bit)) ∧ Below w.heap.size w w' := by
  obtain ⟨M, n, hcT0, htab⟩ := ht
  have hcT : w.cell? ⟨T, 0, none⟩ = some (.map (some M)) := by rw [cell_of_row _ _ _ _ _ _ hcT0]; rfl
  clear hcT0
  have hTl := World.block_lt_of_cell? w _ hcT
  have hMl := htab.lt
  simp only at hTl
  have hd0 : decide ((bit : Int) < 0) = false := by simp
  have HR : Hid (Hm.read ns s.data.toList bit = Hm.rd (Hm.tab ns) s.data.toList 17 0 0 bit) := rfl
  have HLong : Hid (∀ c l, 15 < l → Hm.tab ns c l = none) := fun c l h => Hm.tab_long hsh h _
  go_enter Try.func86, Try.ntmps86
  go_wp2
  have hbx : (w.alloc (.cells #[.int .i64 0, .int .i64 0] 113)).heap[w.heap.size]? = some (.cells #[.int .i64 0, .int .i64 0] 113 (0, 0)) := heap_alloc_new _ _
  have hb0 := (Below.refl w.heap.size w).alloc (Nat.le_refl _) (.cells #[.int .i64 0, .int .i64 0] 113)
  go_loopg [2] 17 (fun gn b wr => ∃ c l bt : Nat, gn + l = 17 ∧ l ≤ 16 ∧ c < 2 ^ l ∧ bt ≤ 9223372036854775807 ∧ b = .int .i64 (bt : Int) ∧ Hm.rd (Hm.tab ns) s.data.toList gn c l bt = Hm.read ns s.data.toList bit ∧ wr.heap[w.heap.size]? = some (.cells #[.int .i64 (c : Int), .int .i64 (l : Int)] 113 (0, 0)) ∧ Below w.heap.size w wr)
  case atStart => exact ⟨0, 0, bit, rfl, by omega, by decide, hbit, rfl, rfl, hbx, hb0⟩
  case round =>
    clear hbx hb0 HR
    obtain ⟨c, l, bt, hgn, hl, hc2, hbt, rfl, hrd, hbx, hbel⟩ := hrel
    have HRD := Lib.hid hrd
    have HC2 := Lib.hid hc2
    obtain ⟨m, rfl⟩ : ∃ m, gk = m + 1 := ⟨gk - 1, by omega⟩
    have hc16 : c < 65536 := Nat.lt_of_lt_of_le hc2 (Nat.pow_le_pow_right (n := 2) (j := 16) (by omega) hl)
    have HLg := Lib.hid hgn
    have ht1 : Tab wr M n (lift (Hm.tab ns)) := by
      obtain ⟨D, ⟨es, clock, q1, q2⟩, q3⟩ := htab
      exact ⟨D, ⟨es, clock, by rw [hbel.block M hMl]; exact q1, q2⟩, q3⟩
    have hlook := ht1.drew.look (a := (c : Int)) (b := (l : Int)) (wf64 (by omega) (by omega)) (wf64 (by omega) (by omega))
    rw [lift_nat] at hlook
    have hcTr := (hbel.cell (p := ⟨T, 0, none⟩) hTl).trans hcT
    have c0 : wr.cell? ⟨w.heap.size, 0, none⟩ = some (.int .i64 (c : Int)) := by rw [cell_of_row _ _ _ _ _ _ hbx]; rfl
    have c1 : wr.cell? ⟨w.heap.size, 1, none⟩ = some (.int .i64 (l : Int)) := by rw [cell_of_row _ _ _ _ _ _ hbx]; rfl
    have f0 := frozen_of_row _ _ 0 _ _ hbx
    have f1 := frozen_of_row _ _ 1 _ _ hbx
    clear hrd hgn hc2 ht1
    cases hf : Hm.tab ns c l with
    | none =>
      rw [hf] at hlook
      simp only [Option.getD_none, Option.isSome_none] at hlook
      have HE := Lib.hid (HRD.out.symm.trans (Hm.rd_none hf))
      clear hf
      go_wp2
      go_region
      clear hlook
      go_wp2
      go_ret3
      exact ⟨by rw [HE.out]; rfl, hbel.drew⟩
    | some x =>
      rw [hf] at hlook
      simp only [Option.getD_some, Option.isSome_some] at hlook
      by_cases hx : 0 ≤ x
      · have HE := Lib.hid (HRD.out.symm.trans (Hm.rd_sym hf hx))
        clear hf
        go_wp2
        go_region
        clear hlook
        go_wp2
        go_ret3
        exact ⟨by rw [HE.out]; rfl, hbel.drew⟩
      · have hx' : decide (0 ≤ x) = false := by simp; omega
        by_cases hend : s.size ≤ bt / 8
        · have HE := Lib.hid (HRD.out.symm.trans (Hm.rd_end hf hx (by rw [Array.length_toList]; exact hend)))
          have he' : decide ((s.size : Int) ≤ (bt : Int) / 8) = true := by simp; omega
          clear hf
          go_wp2
          go_region
          clear hlook
          go_wp2
          go_ret3
          exact ⟨by rw [HE.out]; rfl, hbel.drew⟩
        · have HE := Lib.hid (HRD.out.symm.trans (Hm.rd_on hf hx (by rw [Array.length_toList]; exact hend)))
          have he' : decide ((s.size : Int) ≤ (bt : Int) / 8) = false := by simp; omega
          have hl15 : l ≤ 15 := by
            rcases Nat.lt_or_ge 15 l with h | h
            · have := HLong.out c l h; rw [this] at hf; cases hf
            · exact h
          clear hf
          have r1 : IntKind.i64.wrap ((bt : Int) / 8) = (bt : Int) / 8 := IntWalk.i64_in _ (by omega)
          have r2 : (0 : Int) ≤ (bt : Int) / 8 := by omega
          have r3 : (bt : Int) / 8 < (s.size : Int) := by omega
          have r4 : ((bt : Int) / 8).toNat = bt / 8 := by omega
          have r5 : IntKind.i64.wrap ((bt : Int) % 8) = (bt : Int) % 8 := IntWalk.i64_in _ (by omega)
          have r6 : (0 : Int) ≤ (bt : Int) % 8 := by omega
          have r7 : ((bt : Int) % 8).toNat = bt % 8 := by omega
          have r8 : IntKind.i64.wrap ((c : Int) * 2) = (c : Int) * 2 := IntWalk.i64_in _ (by omega)
          have r9 : IntKind.i64.wrap ((l : Int) + 1) = (l : Int) + 1 := IntWalk.i64_in _ (by omega)
          go_wp2
          go_region
          clear hlook
          go_wp2
          go_region
          have hb8 : bt / 8 < s.size := by omega
          rw [bit_next c s bt hb8 hc16]
          have hbo := Hm.bitOf_le s.data.toList bt
          generalize Hm.bitOf s.data.toList bt = q at *
          have hbel2 := ((hbel.setCell (p := ⟨w.heap.size, 0, none⟩) (Nat.le_refl _) (.int .i64 ((2 * c + q : Nat) : Int))).setCell (p := ⟨w.heap.size, 1, none⟩) (Nat.le_refl _) (.int .i64 ((l : Int) + 1))).drew.drew
          have HX : Hid (((wr.setCell ⟨w.heap.size, 0, none⟩ (.int .i64 ((2 * c + q : Nat) : Int))).setCell ⟨w.heap.size, 1, none⟩ (.int .i64 ((l : Int) + 1))).drew.drew.heap[w.heap.size]? = some (.cells #[.int .i64 ((2 * c + q : Nat) : Int), .int .i64 ((l : Int) + 1)] 113 (0, 0))) := heap_setCell_same _ w.heap.size 1 _ _ (.int .i64 ((l : Int) + 1)) (heap_setCell_same _ w.heap.size 0 _ _ (.int .i64 ((2 * c + q : Nat) : Int)) hbx)
          have hbt2 : bt ≤ 2251799813685248 := by omega
          generalize ((wr.setCell ⟨w.heap.size, 0, none⟩ (.int .i64 ((2 * c + q : Nat) : Int))).setCell ⟨w.heap.size, 1, none⟩ (.int .i64 ((l : Int) + 1))).drew.drew = wq at *
          go_wp2
          go_roundg m
          case measure => omega
          case rel => exact ⟨2 * c + q, l + 1, bt + 1, by have := HLg.out; omega, by omega, by have := HC2.out; rw [Nat.pow_succ]; omega, by omega, by go_num, HE.out.symm, by rw [HX.out]; rfl, hbel2⟩
theorem read_neg (T : Nat) (s : ByteArray) (bit : Int) (w : World) (h : bit < 0) :
    Calls Try.prog 86 #[.pointer (some ⟨T, 0, none⟩), .string s, .int .i64 bit] w fun e w' => e = .returned (tri (0, 0, 80)) ∧ w = w' := by
  go_enter Try.func86, Try.ntmps86
  go_wp2
  go_ret3
  exact ⟨rfl, rfl⟩
end Go.Proofs.Ytcjcmlnbchmnnaa
