/- inflate.fixed: its contract. -/
import Derived.Test.YtcjcmlnbchmnnaaIRow
namespace Go.Proofs.Ytcjcmlnbchmnnaa
open Go.RowKit

namespace Im
set_option maxRecDepth 100000 in
theorem fixLit_at : ∀ i, i < 288 → fixLit.getD i 0 = if i < 144 ∨ 280 ≤ i then 8 else if i < 256 then 9 else 7 := by decide
set_option maxRecDepth 100000 in
theorem fixDist_at : ∀ i, i < 32 → fixDist.getD i 0 = 5 := by decide
set_option maxRecDepth 100000 in
theorem fixLit_err : Hm.err fixLit = 0 := by decide
set_option maxRecDepth 100000 in
theorem fixDist_err : Hm.err fixDist = 0 := by decide
theorem fixLit_length : fixLit.length = 288 := by unfold fixLit; rw [List.length_append, List.length_append, List.length_append, List.length_replicate, List.length_replicate, List.length_replicate, List.length_replicate]
theorem fixDist_length : fixDist.length = 32 := by unfold fixDist; rw [List.length_replicate]
theorem fixLit_short : Hm.Short fixLit := by
  intro n hn
  unfold fixLit at hn
  rcases List.mem_append.1 hn with hn | hn
  · rcases List.mem_append.1 hn with hn | hn
    · rcases List.mem_append.1 hn with hn | hn
      · rw [List.eq_of_mem_replicate hn]; omega
      · rw [List.eq_of_mem_replicate hn]; omega
    · rw [List.eq_of_mem_replicate hn]; omega
  · rw [List.eq_of_mem_replicate hn]; omega
theorem fixDist_short : Hm.Short fixDist := by
  intro n hn
  unfold fixDist at hn
  rw [List.eq_of_mem_replicate hn]; omega
theorem err_share {ns : List Nat} (h : Hm.err ns = 0) : Hm.share ns ≤ 32768 := by
  unfold Hm.err at h
  by_cases h1 : 32768 < Hm.share ns
  · rw [if_pos h1] at h; cases h
  · omega
end Im
theorem size_alloc (w : World) (o : Obj) : (w.alloc o).heap.size = w.heap.size + 1 := by simp
def fl (i : Nat) : Value := .int .i64 ((Im.fixLit.getD i 0 : Nat) : Int)
def fd (i : Nat) : Value := .int .i64 ((Im.fixDist.getD i 0 : Nat) : Int)
def flTo (k i : Nat) : Value := if i < k then fl i else .int .i64 0
def fdTo (k i : Nat) : Value := if i < k then fd i else .int .i64 0
theorem row_sints {w : World} {g : Nat} {ns : List Nat} (h : w.rowIs g 3 ns.length fun i => .int .i64 ((ns.getD i 0 : Nat) : Int)) : SInts w (some ⟨g, 0, none⟩) (ints ns) := by
  intro j x hj
  have hlt : j < ns.length := by have := (List.getElem?_eq_some_iff.1 hj).1; rwa [ints_length] at this
  refine ⟨g, 0, rfl, ?_⟩
  rw [Nat.zero_add, h.cell hlt]
  rw [ints_get ns j hlt] at hj
  cases hj
  rfl
/-- the two rows -/
def FixedIn (w : World) (o : Ending) (w' : World) : Prop := ∃ g1 g2, o = .returned (.tuple #[.slice (some ⟨g1, 0, none⟩) 288 288, .slice (some ⟨g2, 0, none⟩) 32 32]) ∧ w'.rowIs g1 3 288 fl ∧ w'.rowIs g2 3 32 fd ∧ Below w.heap.size w w'

set_option maxRecDepth 100000 in
set_option maxHeartbeats 2000000 in
theorem fixed_in (w : World) : Calls Try.prog 72 #[] w (FixedIn w) := by
  have m1 : ∀ w : World, (Instr.makeSlice 32 (.int .i64 288) (.int .i64 288)).run Try.prog w = .ok (.slice (some ⟨w.heap.size, 0, none⟩) 288 288) (w.alloc (.cells (madeCells #[.int .i64 0] 288) 3)) := fun _ => by kernel_rfl
  have m2 : ∀ w : World, (Instr.makeSlice 32 (.int .i64 32) (.int .i64 32)).run Try.prog w = .ok (.slice (some ⟨w.heap.size, 0, none⟩) 32 32) (w.alloc (.cells (madeCells #[.int .i64 0] 32) 3)) := fun _ => by kernel_rfl
  have HR1 := fun w => Lib.hid (World.rowIs_made w (.int .i64 0) 288 3)
  have HR2 := fun w => Lib.hid (World.rowIs_made w (.int .i64 0) 32 3)
  generalize hA : madeCells #[Value.int .i64 0] 288 = A at *
  generalize hB : madeCells #[Value.int .i64 0] 32 = B at *
  clear hA hB
  go_enter Try.func72, Try.ntmps72
  go_upto_region 1 with fail
  go_cut [0, 1] (fun v1 v2 wx => ∃ g1 g2, v1 = .slice (some ⟨g1, 0, none⟩) 288 288 ∧ v2 = .slice (some ⟨g2, 0, none⟩) 32 32 ∧ g1 ≠ g2 ∧ w.heap.size ≤ g1 ∧ w.heap.size ≤ g2 ∧ wx.rowIs g1 3 288 (flTo 0) ∧ wx.rowIs g2 3 32 (fdTo 0) ∧ Below w.heap.size w wx)
  case first =>
    go_region
    all_goals (go_wp2_with fail; go_meet)
    · exact ⟨_, _, rfl, rfl, by omega, by omega, by omega, ((HR1 w).out.alloc _).congr fun i _ => by simp [flTo], (by have := (HR2 (w.alloc (.cells A 3))).out; rw [size_alloc] at this; exact this.congr fun i _ => by simp [fdTo]), (((Below.refl w.heap.size w).alloc (Nat.le_refl _) _).alloc (by rw [size_alloc]; omega) _).drew⟩
    · exact ⟨_, _, rfl, rfl, by omega, by omega, by omega, (by have := (HR1 (w.alloc (.cells B 3))).out; rw [size_alloc] at this; exact this.congr fun i _ => by simp [flTo]), ((HR2 w).out.alloc _).congr fun i _ => by simp [fdTo], (((Below.refl w.heap.size w).alloc (Nat.le_refl _) _).alloc (by rw [size_alloc]; omega) _).drew⟩
  case rest =>
    clear m1 m2 HR1 HR2
    obtain ⟨g1, g2, rfl, rfl, hne, hg1, hg2, hr1, hr2, hb⟩ := hcut
    go_wp2
    go_loopg [2, 8] 288 (fun g _ i wr => ∃ k : Nat, g + k = 288 ∧ i = .int .i64 (k : Int) ∧ wr.rowIs g1 3 288 (flTo k) ∧ wr.rowIs g2 3 32 (fdTo 0) ∧ Below w.heap.size w wr)
    case atStart => exact ⟨0, rfl, rfl, hr1, hr2, hb⟩
    case round =>
      clear hr1 hr2 hb
      obtain ⟨k, hk, rfl, hr1, hr2, hb⟩ := hrel
      by_cases hlt : k < 288
      · have HF : Hid (fl k = .int .i64 ((if k < 144 ∨ 280 ≤ k then 8 else if k < 256 then 9 else 7 : Nat) : Int)) := by unfold Hid fl; rw [Im.fixLit_at k hlt]
        have hkk := Lib.hid hk
        have q0 : decide ((k : Int) < 288) = true := by simp; omega
        have c1 := hr1.cell hlt
        have f1 := hr1.frozen k
        have hS : ∀ v, fl k = v → Hid ((wr.setCell ⟨g1, k, none⟩ v).rowIs g1 3 288 (flTo (k + 1)) ∧ (wr.setCell ⟨g1, k, none⟩ v).rowIs g2 3 32 (fdTo 0) ∧ Below w.heap.size w (wr.setCell ⟨g1, k, none⟩ v)) := by
          intro v hv
          refine ⟨(hr1.set k v).congr fun j _ => ?_, hr2.setOther (by exact fun e => hne e.symm) v, hb.setCell (p := ⟨g1, k, none⟩) hg1 v⟩
          unfold flTo
          by_cases e : j = k
          · subst e; rw [if_pos rfl, if_pos (by omega), hv]
          · rw [if_neg e]
            by_cases e2 : j < k
            · rw [if_pos e2, if_pos (by omega)]
            · rw [if_neg e2, if_neg (by omega)]
        clear hr1 hr2 hb hk
        by_cases h1 : k < 144 ∨ 280 ≤ k
        · have HS := hS (.int .i64 8) (by rw [HF.out, if_pos h1]; rfl)
          clear hS HF
          rcases h1 with h1 | h1
          · have q1 : decide ((k : Int) < 144) = true := by simp; omega
            go_wp2
            go_roundg (gk - 1)
            case measure => have := hkk.out; omega
            case rel => exact ⟨k + 1, by have := hkk.out; omega, by go_num, HS.out⟩
          · have q1 : decide ((k : Int) < 144) = false := by simp; omega
            have q2 : decide ((280 : Int) ≤ (k : Int)) = true := by simp; omega
            go_wp2
            go_roundg (gk - 1)
            case measure => have := hkk.out; omega
            case rel => exact ⟨k + 1, by have := hkk.out; omega, by go_num, HS.out⟩
        · have q1 : decide ((k : Int) < 144) = false := by simp; omega
          have q2 : decide ((280 : Int) ≤ (k : Int)) = false := by simp; omega
          by_cases h2 : k < 256
          · have HS := hS (.int .i64 9) (by rw [HF.out, if_neg h1, if_pos h2]; rfl)
            clear hS HF
            have q3 : decide ((k : Int) < 256) = true := by simp; omega
            go_wp2
            go_roundg (gk - 1)
            case measure => have := hkk.out; omega
            case rel => exact ⟨k + 1, by have := hkk.out; omega, by go_num, HS.out⟩
          · have HS := hS (.int .i64 7) (by rw [HF.out, if_neg h1, if_neg h2]; rfl)
            clear hS HF
            have q3 : decide ((k : Int) < 256) = false := by simp; omega
            go_wp2
            go_roundg (gk - 1)
            case measure => have := hkk.out; omega
            case rel => exact ⟨k + 1, by have := hkk.out; omega, by go_num, HS.out⟩
      · obtain rfl : k = 288 := by omega
        clear hk
        have hr1' : wr.rowIs g1 3 288 fl := hr1.congr fun j hj => by unfold flTo; rw [if_pos hj]
        clear hr1
        go_wp2
        go_loopg [3, 33] 32 (fun g _ i wr => ∃ k : Nat, g + k = 32 ∧ i = .int .i64 (k : Int) ∧ wr.rowIs g1 3 288 fl ∧ wr.rowIs g2 3 32 (fdTo k) ∧ Below w.heap.size w wr)
        case atStart => exact ⟨0, rfl, rfl, hr1', hr2, hb⟩
        case round =>
          clear hr1' hr2 hb
          obtain ⟨k, hk, rfl, hr1, hr2, hb⟩ := hrel
          by_cases hlt : k < 32
          · have HF : Hid (fd k = .int .i64 5) := by unfold Hid fd; rw [Im.fixDist_at k hlt]; rfl
            have hkk := Lib.hid hk
            have q0 : decide ((k : Int) < 32) = true := by simp; omega
            have c1 := hr2.cell hlt
            have f1 := hr2.frozen k
            have HS : Hid ((wr.setCell ⟨g2, k, none⟩ (.int .i64 5)).rowIs g1 3 288 fl ∧ (wr.setCell ⟨g2, k, none⟩ (.int .i64 5)).rowIs g2 3 32 (fdTo (k + 1)) ∧ Below w.heap.size w (wr.setCell ⟨g2, k, none⟩ (.int .i64 5))) := by
              refine ⟨hr1.setOther (by exact hne) _, (hr2.set k _).congr fun j _ => ?_, hb.setCell (p := ⟨g2, k, none⟩) hg2 _⟩
              unfold fdTo
              by_cases e : j = k
              · subst e; rw [if_pos rfl, if_pos (by omega), HF.out]
              · rw [if_neg e]
                by_cases e2 : j < k
                · rw [if_pos e2, if_pos (by omega)]
                · rw [if_neg e2, if_neg (by omega)]
            clear hr1 hr2 hb hk
            go_wp2
            go_roundg (gk - 1)
            case measure => have := hkk.out; omega
            case rel => exact ⟨k + 1, by have := hkk.out; omega, by go_num, HS.out⟩
          · obtain rfl : k = 32 := by omega
            clear hk
            have hr2' : wr.rowIs g2 3 32 fd := hr2.congr fun j hj => by unfold fdTo; rw [if_pos hj]
            go_wp2
            go_ret2
            exact ⟨g1, g2, rfl, hr1, hr2', hb⟩
end Go.Proofs.Ytcjcmlnbchmnnaa
