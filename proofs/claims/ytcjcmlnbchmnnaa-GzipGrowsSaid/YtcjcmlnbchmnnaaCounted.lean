/- huff.counted: how many codes there are of each length, or why they may not be: its contract. -/
import Derived.Test.YtcjcmlnbchmnnaaSl
import Derived.Deep.OwnRows
import Derived.Laws.Tables
import Derived.Laws.ResultCell
import Derived.Deep.QuietTactic
import Derived.BigQuiet
namespace Go.Proofs.Ytcjcmlnbchmnnaa
open Go.RowKit

/-- how many of each length, as a row -/
def cnf (ns : List Nat) (l : Nat) : Value := .int .i64 (Hm.cn ns l : Nat)
def cnts (ns : List Nat) : Array Value := ((List.range 16).map (cnf ns)).toArray
theorem cnts_of {w : World} {b : Nat} {ns : List Nat} (h : w.rowIs b 114 16 (cnf ns)) : w.heap[b]? = some (.cells (cnts ns) 114 (0, 0)) := by
  obtain ⟨c, hb, hn, hc⟩ := h
  have e : c = cnts ns := by
    apply Array.ext_getElem?
    intro i
    by_cases hi : i < 16
    · rw [hc i hi]; simp [cnts, hi]
    · rw [Array.getElem?_eq_none (by omega), Array.getElem?_eq_none (by simp [cnts]; omega)]
  rw [← e]; exact hb
theorem cnts_size (ns : List Nat) : (cnts ns).size = 16 := by simp [cnts]
theorem cnts_one (ns : List Nat) : (cnts ns).all (·.oneCell') = true := by
  rw [Array.all_eq_true_iff_forall_mem]; intro x hx
  simp only [cnts, List.mem_toArray, List.mem_map] at hx
  obtain ⟨l, _, rfl⟩ := hx; rfl
theorem setRow_same {w : World} {g : Nat} {cs : Array Value} {t : TypeId} {fr : Nat × Nat} (h : w.heap[g]? = some (.cells cs t fr)) : w.setRow g cs = w := by
  have e : (w.setRow g cs).heap = w.heap := by
    apply Array.ext_getElem?
    intro i
    by_cases hi : g = i
    · subst hi; rw [setRow_heap w g cs cs t fr h, h]
    · simp only [World.setRow, Array.getElem?_modify, if_neg hi]
  show ({ w with heap := (w.setRow g cs).heap } : World) = w
  rw [e]
theorem zeros16 (i : Nat) (h : i < 16) : (#[.int .i64 0, .int .i64 0, .int .i64 0, .int .i64 0, .int .i64 0, .int .i64 0, .int .i64 0, .int .i64 0, .int .i64 0, .int .i64 0, .int .i64 0, .int .i64 0, .int .i64 0, .int .i64 0, .int .i64 0, .int .i64 0] : Array Value)[i]? = some (cnf [] i) := by
  rw [show (#[.int .i64 0, .int .i64 0, .int .i64 0, .int .i64 0, .int .i64 0, .int .i64 0, .int .i64 0, .int .i64 0, .int .i64 0, .int .i64 0, .int .i64 0, .int .i64 0, .int .i64 0, .int .i64 0, .int .i64 0, .int .i64 0] : Array Value) = Array.replicate 16 (.int .i64 0) from rfl, Array.getElem?_replicate, if_pos h]
  simp [cnf, Hm.cn]
theorem row0 (w : World) : (w.alloc (.cells #[.int .i64 0, .int .i64 0, .int .i64 0, .int .i64 0, .int .i64 0, .int .i64 0, .int .i64 0, .int .i64 0, .int .i64 0, .int .i64 0, .int .i64 0, .int .i64 0, .int .i64 0, .int .i64 0, .int .i64 0, .int .i64 0] 114)).rowIs w.heap.size 114 16 (cnf []) :=
  World.rowIs_alloc w _ 114 _ (fun i hi => zeros16 i hi)
theorem info16 : (Try.prog.info? 114).map (·.size) = some 16 := by kernel_rfl
/-- the whole row, read and laid back -/
theorem load16 {w : World} {b : Nat} {ns : List Nat} (h : w.rowIs b 114 16 (cnf ns)) : (Instr.loadAt 114 (.pointer (some ⟨b, 0, none⟩))).run Try.prog w = .ok (.agg (cnts ns)) w := by
  have := run_loadVar_row (P := Try.prog) w b 114 114 (cnts ns) (0, 0) _ (cnts_of h) Try.underlying114 rfl (by rw [cnts_size]; exact info16)
  simp [Instr.loadAt, Instr.sureAddr, this]
theorem store16 {w : World} {b : Nat} {ns : List Nat} (h : w.rowIs b 114 16 (cnf ns)) : (Instr.storeAt 114 (.pointer (some ⟨b, 0, none⟩)) (.agg (cnts ns))).run Try.prog w = .ok () w := by
  have := run_storeVar_row (P := Try.prog) w b 114 114 (cnts ns) (cnts ns) (cnts_of h) (by rw [cnts_size]; exact info16) rfl (cnts_one ns)
  rw [setRow_same (cnts_of h)] at this
  simp [Instr.storeAt, Instr.sureAddr, this]
theorem res16 {tmps : Array Value} {w : World} {b : Nat} {A : Array Value} {v : Value} (hg : w.heap[b]? = some (.cells A 114 (0, 0))) (hz : (Try.prog.info? 114).map (·.size) = some A.size)
    (hp : tmps.getD 2 undef = .pointer (some ⟨b, 0, none⟩)) (hq : tmps.getD 3 undef = v) : (results Try.f90 tmps).run Try.prog w = .ok (.tuple #[.agg A, v]) w := by
  rw [results_cell_tmp (p := 2) (u := 3) (ty := 114) rfl, hp, hq]
  have := run_loadVar_row (P := Try.prog) w b 114 114 A (0, 0) _ hg Try.underlying114 rfl hz
  simp [asAddr, Result.andThen, this]
theorem share_step (ns : List Nat) (k : Nat) (hk : k < ns.length) : Hm.share (ns.take (k + 1)) = Hm.share (ns.take k) + Hm.part (Hm.len ns k) := by
  rw [List.take_succ_eq_append_getElem hk, Hm.share_append, Hm.len_get hk]; rfl
theorem cn_step (ns : List Nat) (k l : Nat) (hk : k < ns.length) : Hm.cn (ns.take (k + 1)) l = Hm.cn (ns.take k) l + if Hm.len ns k = l ∧ l ≠ 0 then 1 else 0 := by
  unfold Hm.cn
  by_cases h : l = 0
  · simp [h]
  · rw [if_neg h, if_neg h, Hm.count_take_succ ns l hk, Hm.len_get hk]; simp [h]

theorem cn_le (ns : List Nat) (k l : Nat) (h : ns.length ≤ 288) : Hm.cn (ns.take k) l ≤ 288 := by
  unfold Hm.cn; split
  · omega
  · exact Nat.le_trans List.count_le_length (by rw [List.length_take]; omega)
theorem share_len (ns : List Nat) : Hm.share ns ≤ 32768 * ns.length := by
  induction ns with
  | nil => simp [Hm.share]
  | cons n r ih =>
    have : Hm.part n ≤ 32768 := by
      unfold Hm.part; split
      · omega
      · exact Nat.pow_le_pow_right (n := 2) (j := 15) (by omega) (by omega)
    simp only [Hm.share, List.length_cons]; omega
theorem share_le (ns : List Nat) (k : Nat) (h : ns.length ≤ 288) : Hm.share (ns.take k) ≤ 9437184 := by
  have := share_len (ns.take k)
  rw [List.length_take] at this; omega

theorem pow_le (l : Nat) : (1 : Int) ≤ 2 ^ (15 - l) ∧ (2 : Int) ^ (15 - l) ≤ 32768 := by
  have h1 := Nat.two_pow_pos (15 - l)
  have h2 := Nat.pow_le_pow_right (n := 2) (i := 15 - l) (j := 15) (by omega) (by omega)
  have e : (2 : Int) ^ (15 - l) = ((2 ^ (15 - l) : Nat) : Int) := by simp
  rw [e]; omega

set_option maxRecDepth 100000 in
set_option maxHeartbeats 1000000 in
theorem counted_in (ao : Option Addr) (cap : Nat) (ns : List Nat) (w : World) (hs : SInts w ao (ints ns)) (hsh : Hm.Short ns) (hl : ns.length ≤ 288) :
    Calls Try.prog 90 #[.slice ao ns.length cap] w fun e w' => e = .returned (.tuple #[.agg (cnts ns), .int .i64 (Hm.err ns)]) ∧ Below w.heap.size w w' := by
  have hd : decide (288 < (ns.length : Int)) = false := by simp; omega
  have hb0 := (Below.refl w.heap.size w).alloc (Nat.le_refl _) (.cells #[.int .i64 0, .int .i64 0, .int .i64 0, .int .i64 0, .int .i64 0, .int .i64 0, .int .i64 0, .int .i64 0, .int .i64 0, .int .i64 0, .int .i64 0, .int .i64 0, .int .i64 0, .int .i64 0, .int .i64 0, .int .i64 0] 114)
  have hr0 : (w.alloc (.cells #[.int .i64 0, .int .i64 0, .int .i64 0, .int .i64 0, .int .i64 0, .int .i64 0, .int .i64 0, .int .i64 0, .int .i64 0, .int .i64 0, .int .i64 0, .int .i64 0, .int .i64 0, .int .i64 0, .int .i64 0, .int .i64 0] 114)).rowIs w.heap.size 114 16 (cnf []) :=
    row0 w
  go_enter Try.func90, Try.ntmps90
  go_wp2
  go_loopw [4, 6, 13] (fun sh _ i wr => ∃ k : Nat, k ≤ ns.length ∧ i = .int .i64 k ∧ sh = .int .i64 (Hm.share (ns.take k) : Nat) ∧ wr.rowIs w.heap.size 114 16 (cnf (ns.take k)) ∧ Below w.heap.size w wr) (fun _ _ i _ => ns.length - (intOf i).toNat)
  case atStart => exact ⟨0, by omega, rfl, rfl, hr0, hb0⟩
  case round =>
    clear hr0 hb0
    obtain ⟨k, hk, rfl, rfl, hrow, hbel⟩ := hrel
    by_cases hlt : k < ns.length
    · obtain ⟨b, o, hix, hc, hbl⟩ := hs.atN k hlt cap
      have hcr := (hbel.cell (p := ⟨b, o, none⟩) hbl).trans hc
      have hl15 := Hm.len_le hsh k
      generalize hlk : Hm.len ns k = l at *
      have HL := Lib.hid hlk
      clear hlk hc
      by_cases hz : l = 0
      · subst hz
        have hsb : Hm.share (ns.take k) ≤ 9437184 := share_le ns k hl
        have HSH := Lib.hid (share_step ns k hlt)
        rw [HL.out] at HSH
        generalize Hm.share (ns.take k) = sh at *
        go_wp2
        go_roundw
        case rel =>
          refine ⟨k + 1, by omega, by go_num, val_int (by rw [HSH.out]; simp [Hm.part]), ?_, hbel⟩
          refine hrow.congr fun j _ => ?_
          unfold cnf; rw [cn_step ns k j hlt, HL.out, if_neg (by omega)]; rfl
        case measure => simp [intOf]; omega
      · have hcl : wr.cell? ⟨w.heap.size, l, none⟩ = some (.int .i64 (Hm.cn (ns.take k) l : Nat)) := hrow.cell (i := l) (by omega)
        have hcb : Hm.cn (ns.take k) l ≤ 288 := cn_le ns k l hl
        have hsb : Hm.share (ns.take k) ≤ 9437184 := share_le ns k hl
        generalize hcc : Hm.cn (ns.take k) l = c at *
        have HC := Lib.hid hcc
        clear hcc
        generalize hss : Hm.share (ns.take k) = sh at *
        have HSH := Lib.hid hss
        clear hss
        have hfl := hrow.frozen l
        have hne : ¬ (w.heap.size = b) := by omega
        have hp := pow_le l
        go_wp2
        go_roundw
        case rel =>
          refine ⟨k + 1, by omega, by go_num, val_int ?_, ?_, hbel.setCell (Nat.le_refl _) _⟩
          · rw [share_step ns k hlt, HSH.out, HL.out, Hm.part, if_neg hz]
            simp
          · refine (hrow.set l _).congr fun j _ => ?_
            unfold cnf
            by_cases hj : j = l
            · subst hj; rw [if_pos rfl, cn_step ns k j hlt, HC.out, HL.out, if_pos ⟨rfl, hz⟩]; rfl
            · rw [if_neg hj, cn_step ns k j hlt, HL.out, if_neg (by omega)]; rfl
        case measure => simp [intOf]; omega
    · obtain rfl : k = ns.length := by omega
      rw [List.take_length] at *
      have HA := Lib.hid (cnts_of hrow)
      have HS := Lib.hid (setRow_same (cnts_of hrow))
      have HZ : Hid ((Try.prog.info? 114).map (·.size) = some (cnts ns).size) := by show _ = _; rw [cnts_size]; exact info16
      have HO := Lib.hid (cnts_one ns)
      have hc1 : wr.cell? ⟨w.heap.size, 1, none⟩ = some (.int .i64 (ns.count 1 : Nat)) := hrow.cell (i := 1) (by omega)
      have HE2 : Hid (Hm.err ns = if 32768 < Hm.share ns then 81 else if Hm.share ns < 32768 ∧ 0 < Hm.share ns ∧ (ns.count 1 ≠ 1 ∨ 16384 < Hm.share ns) then 82 else 0) := rfl
      have hc1b : ns.count 1 ≤ 288 := Nat.le_trans List.count_le_length hl
      have hsb : Hm.share ns ≤ 9437184 := by have := share_len ns; omega
      generalize her : Hm.err ns = er at *
      have HER := Lib.hid her
      generalize hcn : cnts ns = A at *
      have HCN := Lib.hid hcn
      clear her hcn
      generalize Hm.share ns = sh at *
      generalize ns.count 1 = c1 at *
      clear hs hsh hrow
      rcases (show (32768 < sh) ∨ (sh < 32768 ∧ 0 < sh ∧ ¬ c1 = 1) ∨ (sh < 32768 ∧ 0 < sh ∧ c1 = 1 ∧ 16384 < sh) ∨ (sh < 32768 ∧ 0 < sh ∧ c1 = 1 ∧ sh ≤ 16384) ∨ sh = 32768 ∨ sh = 0 by omega) with h | ⟨h1, h2, h3⟩ | ⟨h1, h2, h3, h4⟩ | ⟨h1, h2, h3, h4⟩ | rfl | rfl
      · have HE : Hid (er = 81) := by have := HE2.out; rw [if_pos h] at this; exact this
        have d0 : decide ((32768 : Int) < (sh : Int)) = true := by simp; omega
        clear h
        clear HE2 hsb hl hd hk hlt
        generalize (sh : Int) = s at *
        go_wp2_with (first | ((with_reducible show wpList _ _ _ (⟨some 40, _, _, _, _, _⟩ :: _) _ _); refine wpList_load_row rfl 114 _ rfl w.heap.size rfl 114 A (0, 0) _ HA.out Try.underlying114 rfl HZ.out ?_) | ((with_reducible show wpList _ _ _ (⟨none, .store 114 _ _, _, _, _, _⟩ :: _) _ _); refine wpList_store_row rfl 114 _ _ rfl w.heap.size A rfl rfl 114 A HA.out HZ.out rfl HO.out ?_; rw [HS.out]))
        exact bodyPost_ret (v := .tuple #[.agg A, .int .i64 81]) (res16 HA.out HZ.out rfl rfl) rfl ⟨by rw [HCN.out, HER.out, HE.out], hbel⟩
      · have HE : Hid (er = 82) := by have := HE2.out; rw [if_neg (by omega), if_pos (by omega)] at this; exact this
        have d0 : decide ((32768 : Int) < (sh : Int)) = false := by simp; omega
        have d1 : decide ((sh : Int) < 32768) = true := by simp; omega
        have d2 : decide ((0 : Int) < (sh : Int)) = true := by simp; omega
        have d3 : ((c1 : Int) != 1) = true := by rw [bne_iff_ne]; omega
        clear h1 h2 h3
        clear HE2 hsb hl hd hk hlt
        generalize (sh : Int) = s at *
        go_wp2_with (first | ((with_reducible show wpList _ _ _ (⟨some 57, _, _, _, _, _⟩ :: _) _ _); refine wpList_load_row rfl 114 _ rfl w.heap.size rfl 114 A (0, 0) _ HA.out Try.underlying114 rfl HZ.out ?_) | ((with_reducible show wpList _ _ _ (⟨none, .store 114 _ _, _, _, _, _⟩ :: _) _ _); refine wpList_store_row rfl 114 _ _ rfl w.heap.size A rfl rfl 114 A HA.out HZ.out rfl HO.out ?_; rw [HS.out]))
        exact bodyPost_ret (v := .tuple #[.agg A, .int .i64 82]) (res16 HA.out HZ.out rfl rfl) rfl ⟨by rw [HCN.out, HER.out, HE.out], hbel⟩
      · have HE : Hid (er = 82) := by have := HE2.out; rw [if_neg (by omega), if_pos (by omega)] at this; exact this
        have d0 : decide ((32768 : Int) < (sh : Int)) = false := by simp; omega
        have d1 : decide ((sh : Int) < 32768) = true := by simp; omega
        have d2 : decide ((0 : Int) < (sh : Int)) = true := by simp; omega
        have d3 : ((c1 : Int) != 1) = false := by rw [h3]; rfl
        have d4 : decide ((16384 : Int) < (sh : Int)) = true := by simp; omega
        clear h1 h2 h3 h4
        clear HE2 hsb hl hd hk hlt
        generalize (sh : Int) = s at *
        go_wp2_with (first | ((with_reducible show wpList _ _ _ (⟨some 57, _, _, _, _, _⟩ :: _) _ _); refine wpList_load_row rfl 114 _ rfl w.heap.size rfl 114 A (0, 0) _ HA.out Try.underlying114 rfl HZ.out ?_) | ((with_reducible show wpList _ _ _ (⟨none, .store 114 _ _, _, _, _, _⟩ :: _) _ _); refine wpList_store_row rfl 114 _ _ rfl w.heap.size A rfl rfl 114 A HA.out HZ.out rfl HO.out ?_; rw [HS.out]))
        exact bodyPost_ret (v := .tuple #[.agg A, .int .i64 82]) (res16 HA.out HZ.out rfl rfl) rfl ⟨by rw [HCN.out, HER.out, HE.out], hbel⟩
      · have HE : Hid (er = 0) := by have := HE2.out; rw [if_neg (by omega), if_neg (by omega)] at this; exact this
        have d0 : decide ((32768 : Int) < (sh : Int)) = false := by simp; omega
        have d1 : decide ((sh : Int) < 32768) = true := by simp; omega
        have d2 : decide ((0 : Int) < (sh : Int)) = true := by simp; omega
        have d3 : ((c1 : Int) != 1) = false := by rw [h3]; rfl
        have d4 : decide ((16384 : Int) < (sh : Int)) = false := by simp; omega
        clear h1 h2 h3 h4
        clear HE2 hsb hl hd hk hlt
        generalize (sh : Int) = s at *
        go_wp2_with (first | ((with_reducible show wpList _ _ _ (⟨some 58, _, _, _, _, _⟩ :: _) _ _); refine wpList_load_row rfl 114 _ rfl w.heap.size rfl 114 A (0, 0) _ HA.out Try.underlying114 rfl HZ.out ?_) | ((with_reducible show wpList _ _ _ (⟨none, .store 114 _ _, _, _, _, _⟩ :: _) _ _); refine wpList_store_row rfl 114 _ _ rfl w.heap.size A rfl rfl 114 A HA.out HZ.out rfl HO.out ?_; rw [HS.out]))
        exact bodyPost_ret (v := .tuple #[.agg A, .int .i64 0]) (res16 HA.out HZ.out rfl rfl) rfl ⟨by rw [HCN.out, HER.out, HE.out], hbel⟩
      · have HE : Hid (er = 0) := by have := HE2.out; rw [if_neg (by omega), if_neg (by omega)] at this; exact this
        clear HE2 hsb hl hd hk hlt
        go_wp2_with (first | ((with_reducible show wpList _ _ _ (⟨some 58, _, _, _, _, _⟩ :: _) _ _); refine wpList_load_row rfl 114 _ rfl w.heap.size rfl 114 A (0, 0) _ HA.out Try.underlying114 rfl HZ.out ?_) | ((with_reducible show wpList _ _ _ (⟨none, .store 114 _ _, _, _, _, _⟩ :: _) _ _); refine wpList_store_row rfl 114 _ _ rfl w.heap.size A rfl rfl 114 A HA.out HZ.out rfl HO.out ?_; rw [HS.out]))
        exact bodyPost_ret (v := .tuple #[.agg A, .int .i64 0]) (res16 HA.out HZ.out rfl rfl) rfl ⟨by rw [HCN.out, HER.out, HE.out], hbel⟩
      · have HE : Hid (er = 0) := by have := HE2.out; rw [if_neg (by omega), if_neg (by omega)] at this; exact this
        clear HE2 hsb hl hd hk hlt
        go_wp2_with (first | ((with_reducible show wpList _ _ _ (⟨some 58, _, _, _, _, _⟩ :: _) _ _); refine wpList_load_row rfl 114 _ rfl w.heap.size rfl 114 A (0, 0) _ HA.out Try.underlying114 rfl HZ.out ?_) | ((with_reducible show wpList _ _ _ (⟨none, .store 114 _ _, _, _, _, _⟩ :: _) _ _); refine wpList_store_row rfl 114 _ _ rfl w.heap.size A rfl rfl 114 A HA.out HZ.out rfl HO.out ?_; rw [HS.out]))
        exact bodyPost_ret (v := .tuple #[.agg A, .int .i64 0]) (res16 HA.out HZ.out rfl rfl) rfl ⟨by rw [HCN.out, HER.out, HE.out], hbel⟩

/-- lengths that may not be -/
def BadL (ls : List Int) : Prop := 288 < ls.length ∨ ∃ (k : Nat) (x : Int), ls[k]? = some x ∧ (x < 0 ∨ 15 < x)
theorem first_bad {ls : List Int} {P : Int → Prop} (h : ∃ (k : Nat) (x : Int), ls[k]? = some x ∧ P x) : ∃ (k : Nat) (x : Int), ls[k]? = some x ∧ P x ∧ ∀ (j : Nat) (y : Int), j < k → ls[j]? = some y → ¬ P y := by
  induction ls with
  | nil => obtain ⟨k, x, h1, _⟩ := h; simp at h1
  | cons a r ih =>
    by_cases ha : P a
    · exact ⟨0, a, rfl, ha, fun j y hj _ => by omega⟩
    · obtain ⟨k, x, h1, h2⟩ := h
      cases k with
      | zero => simp at h1; subst h1; exact absurd h2 ha
      | succ k =>
        obtain ⟨k', x', g1, g2, g3⟩ := ih ⟨k, x, by simpa using h1, h2⟩
        refine ⟨k' + 1, x', by simpa using g1, g2, fun j y hj hy => ?_⟩
        cases j with
        | zero => simp at hy; subst hy; exact ha
        | succ j => exact g3 j y (by omega) (by simpa using hy)
theorem bad_or (ls : List Int) : BadL ls ∨ ∃ ns : List Nat, ls = ints ns ∧ Hm.Short ns ∧ ns.length ≤ 288 := by
  by_cases h : BadL ls
  · exact .inl h
  · refine .inr ⟨ls.map Int.toNat, ?_, ?_, ?_⟩
    · unfold ints
      rw [List.map_map]
      conv => lhs; rw [← List.map_id ls]
      apply List.map_congr_left
      intro x hx
      obtain ⟨k, hk⟩ := List.getElem?_of_mem hx
      have : ¬ (x < 0 ∨ 15 < x) := fun hb => h (.inr ⟨k, x, hk, hb⟩)
      show x = ((x.toNat : Nat) : Int)
      omega
    · intro n hn
      obtain ⟨x, hx, rfl⟩ := List.mem_map.1 hn
      obtain ⟨k, hk⟩ := List.getElem?_of_mem hx
      have : ¬ (x < 0 ∨ 15 < x) := fun hb => h (.inr ⟨k, x, hk, hb⟩)
      omega
    · rw [List.length_map]
      rcases Nat.lt_or_ge 288 ls.length with h' | h'
      · exact absurd (.inl h') h
      · exact h'
theorem bad_not {ns : List Nat} (hs : Hm.Short ns) (hl : ns.length ≤ 288) : ¬ BadL (ints ns) := by
  rintro (h | ⟨k, x, h1, h2⟩)
  · rw [ints_length] at h; omega
  · have hm := List.mem_of_getElem? h1
    unfold ints at hm
    obtain ⟨n, hn, rfl⟩ := List.mem_map.1 hm
    have := hs n hn
    omega
def Bad80 (w : World) (e : Ending) (w' : World) : Prop := ∃ A : Array Value, A.size = 16 ∧ A.all (·.oneCell') = true ∧ e = .returned (.tuple #[.agg A, .int .i64 80]) ∧ Below w.heap.size w w'
theorem row_whole {w : World} {b : Nat} {g : Nat → Nat} (h : w.rowIs b 114 16 (fun l => .int .i64 (g l))) : ∃ A : Array Value, w.heap[b]? = some (.cells A 114 (0, 0)) ∧ A.size = 16 ∧ A.all (·.oneCell') = true := by
  obtain ⟨c, hb, hn, hc⟩ := h
  refine ⟨c, hb, hn, ?_⟩
  rw [Array.all_eq_true]
  intro i hi
  have := hc i (by omega)
  rw [Array.getElem?_eq_getElem hi, Option.some.injEq] at this
  rw [this]; rfl

set_option maxRecDepth 100000 in
set_option maxHeartbeats 1000000 in
theorem counted_out (ao : Option Addr) (cap : Nat) (ls : List Int) (w : World) (hs : SInts w ao ls) (hm : ls.length ≤ maxLen) (hbad : BadL ls) :
    Calls Try.prog 90 #[.slice ao ls.length cap] w (Bad80 w) := by
  unfold maxLen at hm
  have hb0 := (Below.refl w.heap.size w).alloc (Nat.le_refl _) (.cells #[.int .i64 0, .int .i64 0, .int .i64 0, .int .i64 0, .int .i64 0, .int .i64 0, .int .i64 0, .int .i64 0, .int .i64 0, .int .i64 0, .int .i64 0, .int .i64 0, .int .i64 0, .int .i64 0, .int .i64 0, .int .i64 0] 114)
  by_cases hlen : 288 < ls.length
  · have hd : decide (288 < (ls.length : Int)) = true := by simp; omega
    clear hbad
    go_enter Try.func90, Try.ntmps90
    go_wp2
    exact bodyPost_ret (v := .tuple #[.agg #[.int .i64 0, .int .i64 0, .int .i64 0, .int .i64 0, .int .i64 0, .int .i64 0, .int .i64 0, .int .i64 0, .int .i64 0, .int .i64 0, .int .i64 0, .int .i64 0, .int .i64 0, .int .i64 0, .int .i64 0, .int .i64 0], .int .i64 80]) (res16 (heap_alloc_new w _) info16 rfl rfl) rfl ⟨_, rfl, by simp [Value.oneCell'], rfl, hb0⟩
  · have hd : decide (288 < (ls.length : Int)) = false := by simp; omega
    obtain ⟨k0, x0, hk0, hx0, hgood⟩ := first_bad (hbad.resolve_left hlen)
    have hk0l : k0 < ls.length := (List.getElem?_eq_some_iff.1 hk0).1
    have hr0 := row0 w
    have HG := Lib.hid hgood
    have HK := Lib.hid hk0
    clear hgood hk0 hbad
    go_enter Try.func90, Try.ntmps90
    go_wp2
    go_loopw [4, 6, 13] (fun sh _ i wr => ∃ k : Nat, ∃ s : Int, ∃ g : Nat → Nat, k ≤ k0 ∧ i = .int .i64 k ∧ sh = .int .i64 s ∧ 0 ≤ s ∧ s ≤ 32768 * (k : Int) ∧ (∀ l, g l ≤ k) ∧ wr.rowIs w.heap.size 114 16 (fun l => .int .i64 (g l)) ∧ Below w.heap.size w wr) (fun _ _ i _ => k0 - (intOf i).toNat)
    case atStart => exact ⟨0, 0, fun l => Hm.cn [] l, by omega, rfl, rfl, by omega, by omega, fun l => by simp [Hm.cn], hr0, hb0⟩
    case round =>
      clear hr0 hb0
      obtain ⟨k, s, g, hk, rfl, rfl, hs0, hs1, hg, hrow, hbel⟩ := hrel
      by_cases hlt : k = k0
      · subst hlt
        obtain ⟨b, o, hix, hc, hbl⟩ := hs.at k _ HK.out cap
        have hcr := (hbel.cell (p := ⟨b, o, none⟩) hbl).trans hc
        obtain ⟨A, HA0, HZ0, HO0⟩ := row_whole hrow
        have HA := Lib.hid HA0
        have HO := Lib.hid HO0
        have HS := Lib.hid (setRow_same HA0)
        have HZ : Hid ((Try.prog.info? 114).map (·.size) = some A.size) := by show _ = _; rw [HZ0]; exact info16
        have HZZ := Lib.hid HZ0
        clear HA0 HZ0 HO0 hc hg hrow hs0 hs1 HG
        rcases hx0 with h1 | h1
        · go_wp2_with (first | ((with_reducible show wpList _ _ _ (⟨some 23, _, _, _, _, _⟩ :: _) _ _); refine wpList_load_row rfl 114 _ rfl w.heap.size rfl 114 A (0, 0) _ HA.out Try.underlying114 rfl HZ.out ?_) | ((with_reducible show wpList _ _ _ (⟨none, .store 114 _ _, _, _, _, _⟩ :: _) _ _); refine wpList_store_row rfl 114 _ _ rfl w.heap.size A rfl rfl 114 A HA.out HZ.out rfl HO.out ?_; rw [HS.out]))
          exact bodyPost_ret (v := .tuple #[.agg A, .int .i64 80]) (res16 HA.out HZ.out rfl rfl) rfl ⟨_, HZZ.out, HO.out, rfl, hbel⟩
        · have h0 : ¬ x0 < 0 := by omega
          go_wp2_with (first | ((with_reducible show wpList _ _ _ (⟨some 23, _, _, _, _, _⟩ :: _) _ _); refine wpList_load_row rfl 114 _ rfl w.heap.size rfl 114 A (0, 0) _ HA.out Try.underlying114 rfl HZ.out ?_) | ((with_reducible show wpList _ _ _ (⟨none, .store 114 _ _, _, _, _, _⟩ :: _) _ _); refine wpList_store_row rfl 114 _ _ rfl w.heap.size A rfl rfl 114 A HA.out HZ.out rfl HO.out ?_; rw [HS.out]))
          exact bodyPost_ret (v := .tuple #[.agg A, .int .i64 80]) (res16 HA.out HZ.out rfl rfl) rfl ⟨_, HZZ.out, HO.out, rfl, hbel⟩
      · have hkl : k < ls.length := by omega
        obtain ⟨b, o, hix, hc, hbl⟩ := hs.at k _ (List.getElem?_eq_getElem hkl) cap
        have hcr := (hbel.cell (p := ⟨b, o, none⟩) hbl).trans hc
        have hgd := HG.out k _ (by omega) (List.getElem?_eq_getElem hkl)
        generalize ls[k] = x at *
        obtain ⟨l, rfl⟩ := Int.eq_ofNat_of_zero_le (show 0 ≤ x by omega)
        have hl15 : l ≤ 15 := by omega
        clear hgd hc
        by_cases hz : l = 0
        · subst hz
          have HGL := Lib.hid hg
          clear hg
          go_wp2
          go_roundw
          case rel => exact ⟨k + 1, s, g, by omega, by go_num, rfl, hs0, by omega, fun l => by have := HGL.out l; omega, hrow, hbel⟩
          case measure => simp [intOf]; omega
        · have hcl : wr.cell? ⟨w.heap.size, l, none⟩ = some (.int .i64 (g l : Nat)) := hrow.cell (i := l) (by omega)
          have hcb := hg l
          have HGL := Lib.hid hg
          generalize hcc : g l = c at *
          have HC := Lib.hid hcc
          clear hcc hg
          have hfl := hrow.frozen l
          have hne : ¬ (w.heap.size = b) := by omega
          have hp := pow_le l
          go_wp2
          go_roundw
          case rel =>
            refine ⟨k + 1, _, fun j => if j = l then c + 1 else g j, by omega, by go_num, rfl, by omega, by omega, ?_, ?_, hbel.setCell (Nat.le_refl _) _⟩
            · intro j
              show (if j = l then c + 1 else g j) ≤ k + 1
              split
              · omega
              · have := HGL.out j; omega
            · refine (hrow.set l _).congr fun j _ => ?_
              show (if j = l then _ else _) = Value.int .i64 ((if j = l then c + 1 else g j : Nat) : Int)
              by_cases hj : j = l
              · rw [if_pos hj, if_pos hj]; rfl
              · rw [if_neg hj, if_neg hj]
          case measure => simp [intOf]; omega
end Go.Proofs.Ytcjcmlnbchmnnaa
