/- huff.Codes: the codes of lengths, or why they may not be: its contract. -/
import Derived.Test.YtcjcmlnbchmnnaaCounted
import Derived.RegionTactic
import Derived.BigRegion
namespace Go.Proofs.Ytcjcmlnbchmnnaa
open Go.RowKit

theorem zeros17 (i : Nat) (h : i < 17) : (#[.int .i64 0, .int .i64 0, .int .i64 0, .int .i64 0, .int .i64 0, .int .i64 0, .int .i64 0, .int .i64 0, .int .i64 0, .int .i64 0, .int .i64 0, .int .i64 0, .int .i64 0, .int .i64 0, .int .i64 0, .int .i64 0, .int .i64 0] : Array Value)[i]? = some (.int .i64 0) := by
  rw [show (#[.int .i64 0, .int .i64 0, .int .i64 0, .int .i64 0, .int .i64 0, .int .i64 0, .int .i64 0, .int .i64 0, .int .i64 0, .int .i64 0, .int .i64 0, .int .i64 0, .int .i64 0, .int .i64 0, .int .i64 0, .int .i64 0, .int .i64 0] : Array Value) = Array.replicate 17 (.int .i64 0) from rfl, Array.getElem?_replicate, if_pos h]
theorem row17 (w : World) : (w.alloc (.cells #[.int .i64 0, .int .i64 0, .int .i64 0, .int .i64 0, .int .i64 0, .int .i64 0, .int .i64 0, .int .i64 0, .int .i64 0, .int .i64 0, .int .i64 0, .int .i64 0, .int .i64 0, .int .i64 0, .int .i64 0, .int .i64 0, .int .i64 0] 117)).rowIs w.heap.size 117 17 (fun _ => .int .i64 0) :=
  World.rowIs_alloc w _ 117 _ (fun i hi => zeros17 i hi)
theorem row_cnts (ns : List Nat) {w : World} {b : Nat} (h : w.heap[b]? = some (.cells (cnts ns) 114 (0, 0))) : w.rowIs b 114 16 (cnf ns) :=
  ⟨_, h, cnts_size ns, fun i hi => by simp [cnts, hi]⟩
theorem infoInt : (Try.prog.info? 3).map (fun i => (i.zero, i.size, i.bytes)) = some (some (.int .i64 0), 1, 8) := by kernel_rfl
/-- the next code of each length, when so many symbols have theirs -/
def nx (ns : List Nat) (k j : Nat) : Value := .int .i64 (Hm.fst ns j + Hm.cn (ns.take k) j : Nat)
def cdTo (ns : List Nat) (k i : Nat) : Value := .int .i64 ((if i < k then Hm.code ns i else 0 : Nat) : Int)
def cdf (ns : List Nat) (i : Nat) : Value := .int .i64 (Hm.code ns i : Int)
def CodesIn (ns : List Nat) (w : World) (e : Ending) (w' : World) : Prop :=
  ∃ g, w.heap.size ≤ g ∧ e = .returned (.tuple #[.slice (some ⟨g, 0, none⟩) ns.length ns.length, .int .i64 0]) ∧ w'.rowIs g 3 ns.length (cdf ns) ∧ Below w.heap.size w w'

theorem belSetRow {B : Nat} {a w : World} (h : Below B a w) {g : Nat} (hg : B ≤ g) (cs : Array Value) : Below B a (w.setRow g cs) :=
  ⟨h.os, h.tape, h.output, by rw [size_setRow]; exact h.size, fun k hk => by rw [← h.block k hk]; simp only [World.setRow, Array.getElem?_modify]; rw [if_neg (by omega)]⟩

set_option maxRecDepth 100000 in
set_option maxHeartbeats 1000000 in
theorem codes_in (ao : Option Addr) (cap : Nat) (ns : List Nat) (w : World) (hs : SInts w ao (ints ns)) (hsh : Hm.Short ns) (hl : ns.length ≤ 288) (herr : Hm.err ns = 0) (hsr : Hm.share ns ≤ 32768) :
    Calls Try.prog 88 #[.slice ao ns.length cap] w (CodesIn ns w) := by
  have HERR := Lib.hid herr
  clear herr
  go_enter Try.func88, Try.ntmps88
  go_wp2_with fail
  refine (counted_in ao cap ns w hs hsh hl).mono ?_
  rintro e w1 ⟨rfl, hb1⟩
  rw [HERR.out]
  have HSZ := Lib.hid (cnts_size ns)
  have HZ : Hid ((Try.prog.info? 114).map (·.size) = some (cnts ns).size) := by show _ = _; rw [cnts_size]; exact info16
  have HO := Lib.hid (cnts_one ns)
  have HR := Lib.hid (fun w b => row_cnts ns (w := w) (b := b))
  generalize cnts ns = A at *
  go_wp2_with ((with_reducible show wpList _ _ _ (⟨none, .store 114 _ _, _, _, _, _⟩ :: _) _ _); refine wpList_store_row rfl 114 _ _ rfl w1.heap.size A rfl rfl 114 #[.int .i64 0, .int .i64 0, .int .i64 0, .int .i64 0, .int .i64 0, .int .i64 0, .int .i64 0, .int .i64 0, .int .i64 0, .int .i64 0, .int .i64 0, .int .i64 0, .int .i64 0, .int .i64 0, .int .i64 0, .int .i64 0] (heap_alloc_new _ _) HZ.out (by rw [HSZ.out]; rfl) HO.out ?_)
  have hrn := HR.out _ _ (setRow_heap (w1.alloc (.cells #[.int .i64 0, .int .i64 0, .int .i64 0, .int .i64 0, .int .i64 0, .int .i64 0, .int .i64 0, .int .i64 0, .int .i64 0, .int .i64 0, .int .i64 0, .int .i64 0, .int .i64 0, .int .i64 0, .int .i64 0, .int .i64 0] 114)) w1.heap.size _ A 114 (0, 0) (heap_alloc_new _ _))
  have hb2 := belSetRow (hb1.alloc hb1.size (.cells #[.int .i64 0, .int .i64 0, .int .i64 0, .int .i64 0, .int .i64 0, .int .i64 0, .int .i64 0, .int .i64 0, .int .i64 0, .int .i64 0, .int .i64 0, .int .i64 0, .int .i64 0, .int .i64 0, .int .i64 0, .int .i64 0] 114)) (g := w1.heap.size) hb1.size A
  have hz2 : ((w1.alloc (.cells #[.int .i64 0, .int .i64 0, .int .i64 0, .int .i64 0, .int .i64 0, .int .i64 0, .int .i64 0, .int .i64 0, .int .i64 0, .int .i64 0, .int .i64 0, .int .i64 0, .int .i64 0, .int .i64 0, .int .i64 0, .int .i64 0] 114)).setRow w1.heap.size A).heap.size = w1.heap.size + 1 := by simp
  generalize (w1.alloc (.cells #[.int .i64 0, .int .i64 0, .int .i64 0, .int .i64 0, .int .i64 0, .int .i64 0, .int .i64 0, .int .i64 0, .int .i64 0, .int .i64 0, .int .i64 0, .int .i64 0, .int .i64 0, .int .i64 0, .int .i64 0, .int .i64 0] 114)).setRow w1.heap.size A = w2 at *
  have hrx := row17 w2
  rw [hz2] at hrx
  have hrn2 := hrn.alloc (.cells #[.int .i64 0, .int .i64 0, .int .i64 0, .int .i64 0, .int .i64 0, .int .i64 0, .int .i64 0, .int .i64 0, .int .i64 0, .int .i64 0, .int .i64 0, .int .i64 0, .int .i64 0, .int .i64 0, .int .i64 0, .int .i64 0, .int .i64 0] 117)
  have hb3 := hb2.alloc hb2.size (.cells #[.int .i64 0, .int .i64 0, .int .i64 0, .int .i64 0, .int .i64 0, .int .i64 0, .int .i64 0, .int .i64 0, .int .i64 0, .int .i64 0, .int .i64 0, .int .i64 0, .int .i64 0, .int .i64 0, .int .i64 0, .int .i64 0, .int .i64 0] 117)
  have hz3 : w1.heap.size + 2 ≤ (w2.alloc (.cells #[.int .i64 0, .int .i64 0, .int .i64 0, .int .i64 0, .int .i64 0, .int .i64 0, .int .i64 0, .int .i64 0, .int .i64 0, .int .i64 0, .int .i64 0, .int .i64 0, .int .i64 0, .int .i64 0, .int .i64 0, .int .i64 0, .int .i64 0] 117)).heap.size := by simp [hz2]
  have hB := hb1.size
  generalize w1.heap.size = B at *
  clear HSZ HZ HO HR hrn hb2 hz2 HERR
  go_loopw [7] (fun i wr => ∃ l : Nat, 1 ≤ l ∧ l ≤ 16 ∧ i = .int .i64 l ∧ wr.rowIs B 114 16 (cnf ns) ∧ wr.rowIs (B + 1) 117 17 (fun j => .int .i64 ((if j ≤ l then Hm.fst ns j else 0 : Nat) : Int)) ∧ Below w.heap.size w wr ∧ B + 2 ≤ wr.heap.size) (fun i _ => 16 - (intOf i).toNat)
  case atStart =>
    refine ⟨1, by omega, by omega, rfl, hrn2, hrx.congr fun j _ => ?_, hb3, hz3⟩
    show _ = Value.int .i64 ((if j ≤ 1 then Hm.fst ns j else 0 : Nat) : Int)
    rcases j with _ | _ | j
    · rfl
    · rfl
    · rw [if_neg (by omega)]; rfl
  case round =>
    clear hrn2 hb3 hz3 hrx
    obtain ⟨l, h1, h16, rfl, hrn, hrx, hbel, hz⟩ := hrel
    by_cases hlt : l ≤ 15
    · have c1 : wr.cell? ⟨B + 1, l, none⟩ = some (.int .i64 (Hm.fst ns l : Nat)) := by
        rw [hrx.cell (i := l) (by omega), if_pos (Nat.le_refl _)]
      have c2 : wr.cell? ⟨B, l, none⟩ = some (.int .i64 (Hm.cn ns l : Nat)) := hrn.cell (i := l) (by omega)
      have c3 : ∃ v, wr.cell? ⟨B + 1, l + 1, none⟩ = some v := ⟨_, hrx.cell (i := l + 1) (by omega)⟩
      obtain ⟨v3, c3⟩ := c3
      have f3 := hrx.frozen (l + 1)
      have htop := Hm.top_le ns hsr l h1 hlt
      have hcn : Hm.cn ns l = ns.count l := by unfold Hm.cn; rw [if_neg (by omega)]
      have hp15 : 2 ^ l ≤ 32768 := Nat.pow_le_pow_right (n := 2) (j := 15) (by omega) hlt
      have HF : Hid (Hm.fst ns (l + 1) = 2 * (Hm.fst ns l + Hm.cn ns l)) := rfl
      have hsum : Hm.fst ns l + Hm.cn ns l ≤ 32768 := by rw [hcn]; omega
      generalize hff : Hm.fst ns l = f at *
      generalize Hm.cn ns l = c at *
      clear htop hcn hp15
      have HFF := Lib.hid hff
      clear hff
      have a1 : (0 : Int) ≤ (l : Int) := by omega
      have a2 : (l : Int) < 16 := by omega
      have a3 : (l : Int) < 17 := by omega
      have a4 : IntKind.i64.wrap ((l : Int) + 1) = (l : Int) + 1 := IntWalk.i64_in _ (by omega)
      have a5 : (0 : Int) ≤ (l : Int) + 1 := by omega
      have a6 : (l : Int) + 1 < 17 := by omega
      have a7 : ((l : Int) + 1).toNat = l + 1 := by omega
      have a8 : IntKind.i64.wrap ((f : Int) + (c : Int)) = (f : Int) + (c : Int) := IntWalk.i64_in _ (by omega)
      have a9 : IntKind.i64.wrap (((f : Int) + (c : Int)) * 2) = ((f : Int) + (c : Int)) * 2 := IntWalk.i64_in _ (by omega)
      go_wp2
      go_region
      clear a4 a7 a8 a9
      go_wp2
      go_roundw
      case rel =>
        refine ⟨l + 1, by omega, by omega, by go_num, (hrn.setOther (by simp) _).drew, ?_, (hbel.setCell (p := ⟨B + 1, l + 1, none⟩) (by show _ ≤ B + 1; omega) _).drew, by show _ ≤ (World.setCell _ _ _).heap.size; simpa using hz⟩
        refine ((hrx.set (l + 1) _).congr fun j _ => ?_).drew
        show (if j = l + 1 then _ else _) = Value.int .i64 ((if j ≤ l + 1 then Hm.fst ns j else 0 : Nat) : Int)
        by_cases hj : j = l + 1
        · subst hj; rw [if_pos rfl, if_pos (Nat.le_refl _), HF.out]; exact val_int (by simp; omega)
        · rw [if_neg hj]
          by_cases hj2 : j ≤ l
          · rw [if_pos hj2, if_pos (by omega)]
          · rw [if_neg hj2, if_neg (by omega)]
      case measure => simp [intOf]; omega
    · obtain rfl : l = 16 := by omega
      have hrx2 : wr.rowIs (B + 1) 117 17 (nx ns 0) := hrx.congr fun j hj => by rw [if_pos (by omega)]; simp [nx, Hm.cn]
      have hmk := run_make_row' (P := Try.prog) 32 3 (.int .i64 0) 8 Try.underlying32 infoInt rfl .i64 .i64 ns.length (by omega) (by omega)
      obtain ⟨w3, rfl⟩ : ∃ w3 : World, w3 = wr := ⟨_, rfl⟩
      clear hrx hlt h1 h16
      go_wp2
      clear hmk
      have hro := World.rowIs_made w3 (.int .i64 0) ns.length 3
      have hrx3 := hrx2.alloc (.cells (madeCells #[.int .i64 0] ns.length) 3)
      have hb3 := hbel.alloc hbel.size (.cells (madeCells #[.int .i64 0] ns.length) 3)
      have hg : w.heap.size ≤ w3.heap.size := hbel.size
      generalize w3.heap.size = G at *
      go_loopw [39, 9, 10] (fun i _ _ wr => ∃ k : Nat, k ≤ ns.length ∧ i = .int .i64 k ∧ wr.rowIs (B + 1) 117 17 (nx ns k) ∧ wr.rowIs G 3 ns.length (cdTo ns k) ∧ Below w.heap.size w wr) (fun i _ _ _ => ns.length - (intOf i).toNat)
      case atStart => exact ⟨0, by omega, rfl, hrx3, hro.congr fun j _ => rfl, hb3⟩
      case round =>
        clear hro hrx3 hb3
        obtain ⟨k, hk, rfl, hrx, hro, hbel2⟩ := hrel
        by_cases hlt : k < ns.length
        · obtain ⟨b, o, hix, hc, hbl⟩ := hs.atN k hlt cap
          have hcr := (hbel2.cell (p := ⟨b, o, none⟩) hbl).trans hc
          have hl15 := Hm.len_le hsh k
          have hcode : Hm.len ns k ≠ 0 → Hm.code ns k = Hm.fst ns (Hm.len ns k) + Hm.cn (ns.take k) (Hm.len ns k) := fun h => by
            rw [Hm.code_pos (by omega)]; unfold Hm.cn; rw [if_neg h]
          have hcd := Hm.code_lt_max hsh hsr k
          have HCD := Lib.hid hcode
          clear hcode hc
          have HC0 : Hid (Hm.len ns k = 0 → Hm.code ns k = 0) := fun h => by unfold Hm.code; rw [if_pos h]
          generalize hlk : Hm.len ns k = l at *
          have HL := Lib.hid hlk
          clear hlk
          have hne : ¬ (B + 1 = G) := by omega
          by_cases hz0 : l = 0
          · subst hz0
            have HZ := Lib.hid (HC0.out rfl)
            clear HC0 HCD
            go_wp2
            go_roundw
            case rel =>
              refine ⟨k + 1, by omega, by go_num, hrx.congr fun j _ => ?_, hro.congr fun j _ => ?_, hbel2⟩
              · unfold nx; rw [cn_step ns k j hlt, HL.out, if_neg (by omega)]; rfl
              · unfold cdTo
                by_cases hj : j < k
                · rw [if_pos hj, if_pos (by omega)]
                · rw [if_neg hj]
                  by_cases hj2 : j < k + 1
                  · obtain rfl : j = k := by omega
                    rw [if_pos hj2, HZ.out]
                  · rw [if_neg hj2]
            case measure => simp [intOf]; omega
          · have HCE := Lib.hid (HCD.out hz0)
            have c1 : wr.cell? ⟨B + 1, l, none⟩ = some (.int .i64 (Hm.code ns k : Nat)) := by
              rw [hrx.cell (i := l) (by omega), HCE.out]; rfl
            have f1 := hrx.frozen l
            have c2 : wr.cell? ⟨G, k, none⟩ = some (.int .i64 0) := by
              rw [hro.cell (i := k) hlt]; unfold cdTo; rw [if_neg (by omega)]; rfl
            have f2 := hro.frozen k
            clear HCD HC0
            generalize hcc : Hm.code ns k = c at *
            have HC := Lib.hid hcc
            clear hcc
            go_wp2
            go_roundw
            case rel =>
              refine ⟨k + 1, by omega, by go_num, ?_, ?_, (hbel2.setCell (p := ⟨G, k, none⟩) (by show _ ≤ G; omega) _).setCell (p := ⟨B + 1, l, none⟩) (by show _ ≤ B + 1; omega) _⟩
              · refine ((hrx.setOther (by simpa using hne) _).set l _).congr fun j _ => ?_
                show (if j = l then _ else _) = _
                unfold nx
                rw [cn_step ns k j hlt, HL.out]
                by_cases hj : j = l
                · subst hj; rw [if_pos rfl, if_pos ⟨rfl, hz0⟩, ← Nat.add_assoc, ← HCE.out]; rfl
                · rw [if_neg hj, if_neg (by omega)]; rfl
              · refine ((hro.set k _).setOther (by simp; omega) _).congr fun j _ => ?_
                show (if j = k then _ else _) = _
                unfold cdTo
                by_cases hj : j = k
                · subst hj; rw [if_pos rfl, if_pos (by omega), HC.out]
                · rw [if_neg hj]
                  by_cases hj2 : j < k
                  · rw [if_pos hj2, if_pos (by omega)]
                  · rw [if_neg hj2, if_neg (by omega)]
            case measure => simp [intOf]; omega
        · obtain rfl : k = ns.length := by omega
          go_wp2
          go_ret2
          exact ⟨G, by omega, rfl, hro.congr fun j hj => by unfold cdTo cdf; rw [if_pos hj], hbel2⟩
theorem codes_err (ao : Option Addr) (cap : Nat) (ns : List Nat) (w : World) (hs : SInts w ao (ints ns)) (hsh : Hm.Short ns) (hl : ns.length ≤ 288) (herr : Hm.err ns ≠ 0) :
    Calls Try.prog 88 #[.slice ao ns.length cap] w fun e w' => e = .returned (.tuple #[.slice none 0 0, .int .i64 (Hm.err ns)]) ∧ Below w.heap.size w w' := by
  have herr' : (Hm.err ns != 0) = true := by rw [bne_iff_ne]; exact herr
  clear herr
  go_enter Try.func88, Try.ntmps88
  go_wp2_with fail
  refine (counted_in ao cap ns w hs hsh hl).mono ?_
  rintro e w1 ⟨rfl, hb1⟩
  have HSZ := Lib.hid (cnts_size ns)
  have HZ : Hid ((Try.prog.info? 114).map (·.size) = some (cnts ns).size) := by show _ = _; rw [cnts_size]; exact info16
  have HO := Lib.hid (cnts_one ns)
  generalize cnts ns = A at *
  generalize hee : Hm.err ns = er at *
  have HEE := Lib.hid hee
  clear hee
  go_wp2_with ((with_reducible show wpList _ _ _ (⟨none, .store 114 _ _, _, _, _, _⟩ :: _) _ _); refine wpList_store_row rfl 114 _ _ rfl w1.heap.size A rfl rfl 114 #[.int .i64 0, .int .i64 0, .int .i64 0, .int .i64 0, .int .i64 0, .int .i64 0, .int .i64 0, .int .i64 0, .int .i64 0, .int .i64 0, .int .i64 0, .int .i64 0, .int .i64 0, .int .i64 0, .int .i64 0, .int .i64 0] (heap_alloc_new _ _) HZ.out (by rw [HSZ.out]; rfl) HO.out ?_)
  go_ret2
  exact ⟨by rw [HEE.out]; rfl, belSetRow (hb1.alloc hb1.size _) hb1.size A⟩
theorem codes_out (ao : Option Addr) (cap : Nat) (ls : List Int) (w : World) (hs : SInts w ao ls) (hm : ls.length ≤ maxLen) (hbad : BadL ls) :
    Calls Try.prog 88 #[.slice ao ls.length cap] w fun e w' => e = .returned (.tuple #[.slice none 0 0, .int .i64 80]) ∧ Below w.heap.size w w' := by
  go_enter Try.func88, Try.ntmps88
  go_wp2_with fail
  refine (counted_out ao cap ls w hs hm hbad).mono ?_
  rintro e w1 ⟨A, hsz, hone, rfl, hb1⟩
  have HSZ := Lib.hid hsz
  have HZ : Hid ((Try.prog.info? 114).map (·.size) = some A.size) := by show _ = _; rw [hsz]; exact info16
  have HO := Lib.hid hone
  clear hsz hone
  go_wp2_with ((with_reducible show wpList _ _ _ (⟨none, .store 114 _ _, _, _, _, _⟩ :: _) _ _); refine wpList_store_row rfl 114 _ _ rfl w1.heap.size A rfl rfl 114 #[.int .i64 0, .int .i64 0, .int .i64 0, .int .i64 0, .int .i64 0, .int .i64 0, .int .i64 0, .int .i64 0, .int .i64 0, .int .i64 0, .int .i64 0, .int .i64 0, .int .i64 0, .int .i64 0, .int .i64 0, .int .i64 0] (heap_alloc_new _ _) HZ.out (by rw [HSZ.out]; rfl) HO.out ?_)
  go_ret2
  exact ⟨rfl, belSetRow (hb1.alloc hb1.size _) hb1.size A⟩
end Go.Proofs.Ytcjcmlnbchmnnaa
