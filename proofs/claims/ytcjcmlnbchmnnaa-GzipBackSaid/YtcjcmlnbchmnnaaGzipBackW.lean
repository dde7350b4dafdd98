/- farrierlaw10.GzipBack: the walk. -/
import Derived.Test.YtcjcmlnbchmnnaaGFixed
import Derived.Test.YtcjcmlnbchmnnaaGzBack
import Derived.BigRegion
namespace Go.Proofs.Ytcjcmlnbchmnnaa
open Go.RowKit

/-- a string turned into bytes: a new row whose cells may be written -/
theorem conv_bytes (w : World) (s : ByteArray) : ∃ cap w', s.size ≤ cap ∧ (convert 9 23 (.string s)).run Try.prog w = .ok (.slice (some ⟨w.heap.size, 0, none⟩) s.size cap) w' ∧ Below w.heap.size w w' ∧
    (∀ j (hj : j < s.size), w'.cell? ⟨w.heap.size, j, none⟩ = some (.int .u8 (s[j].toNat : Int))) ∧ ∀ j, j < s.size → w'.frozen? ⟨w.heap.size, j, none⟩ = false := by
  have hge := grownCap_ge w s.size 0 5
  refine ⟨_, _, hge, run_bytes_of_string w _ _ 5 s Try.underlying9 Try.underlying23 Try.underlying5, ((Below.refl w.heap.size w).drew).alloc (Nat.le_refl _) _, fun j hj => ?_, fun j hj => ?_⟩
  · have h := World.cell?_alloc_mark w.drew (bytesRow s (grownCap w s.size 0 5)) 5 ((bytesRow s (grownCap w s.size 0 5)).size, (bytesRow s (grownCap w s.size 0 5)).size + 1) j
    have e : w.drew.heap.size = w.heap.size := rfl
    rw [e] at h
    rw [h, bytesRow_at s _ j hj]
    rfl
  · have h := World.frozen?_alloc_mark w.drew (bytesRow s (grownCap w s.size 0 5)) 5 (bytesRow s (grownCap w s.size 0 5)).size ((bytesRow s (grownCap w s.size 0 5)).size + 1) j
    have e : w.drew.heap.size = w.heap.size := rfl
    rw [e] at h
    rw [h]
    have hlt : ¬ (bytesRow s (grownCap w s.size 0 5)).size ≤ j := by
      unfold bytesRow
      simp
      omega
    simp [hlt]
theorem flip_byte (x : UInt8) (j : Nat) (hj : j < 8) : bits BinOp.xor IntKind.u8 (x.toNat : Int) ((2 : Int) ^ j % 256) = ((UInt8.ofNat (x.toNat ^^^ 2 ^ j)).toNat : Int) ∧ UInt8.ofNat (x.toNat ^^^ 2 ^ j) ≠ x := by
  have hx := x.toNat_lt
  have hp : 2 ^ j ≤ 2 ^ 7 := Nat.pow_le_pow_right (by omega) (by omega)
  have hlt : x.toNat ^^^ 2 ^ j < 256 := Nat.xor_lt_two_pow (n := 8) hx (by omega)
  have hn := Gz.flip_ne ⟨x.toNat, hx⟩ ⟨j, hj⟩
  have e1 : ((2 : Int) ^ j % 256) = ((2 ^ j : Nat) : Int) := by
    have : ((2 ^ j : Nat) : Int) = (2 : Int) ^ j := by rw [Int.natCast_pow]; rfl
    rw [← this]
    generalize 2 ^ j = z at *
    omega
  constructor
  · rw [e1, u8_xor_nat _ _ hx (by omega), UInt8.toNat_ofNat', Nat.mod_eq_of_lt hlt]
  · intro q
    have := congrArg UInt8.toNat q
    rw [UInt8.toNat_ofNat', Nat.mod_eq_of_lt hlt] at this
    exact hn this
theorem row_set (w : World) (g p n : Nat) (M : List UInt8) (y : UInt8) (hp : p < M.length) (hM : M.length = n) (h : ∀ j (hj : j < M.length), w.cell? ⟨g, j, none⟩ = some (.int .u8 (M[j].toNat : Int))) (cap : Nat) :
    (convert 23 9 (.slice (some ⟨g, 0, none⟩) n cap)).run Try.prog (w.setCell ⟨g, p, none⟩ (.int .u8 (y.toNat : Int))).drew = .ok (.string ⟨(M.set p y).toArray⟩) (w.setCell ⟨g, p, none⟩ (.int .u8 (y.toNat : Int))).drew := by
  refine conv_cells _ _ n cap (M.set p y) (by rw [List.length_set]; exact hM) ?_
  intro j u hu
  have e : ((⟨g, 0, none⟩ : Addr).add j) = ⟨g, j, none⟩ := by simp only [Addr.add]; split <;> simp_all
  rw [e]
  have hj : j < (bvals (M.set p y)).length := (List.getElem?_eq_some_iff.1 hu).1
  rw [bvals_length, List.length_set] at hj
  rw [bvals_get _ _ (by rw [List.length_set]; exact hj)] at hu
  injection hu with hu
  subst hu
  show (w.setCell ⟨g, p, none⟩ (.int .u8 (y.toNat : Int))).cell? ⟨g, j, none⟩ = _
  by_cases hjp : j = p
  · subst hjp
    have hc := h j hj
    rw [List.getElem_set_self]
    exact World.cell?_setCell_same w _ _ hc
  · rw [List.getElem_set_ne (fun q => hjp q.symm)]
    rw [World.cell?_setCell_other w _ _ _ (by intro q; injection q with _ q; exact hjp q.symm)]
    exact h j hj
set_option maxHeartbeats 4000000 in
set_option maxRecDepth 100000 in
theorem walk_GzipBack (a0 a1 : ByteArray) (a2 : Int) (_z0 : a0.size ≤ 140737488351232) (_z1 : a1.size ≤ 140737488351232) (_w2 : (Lit.int .i64 a2).wf = true) (w : World) :
    Calls Try.prog 13 #[.string a0, .string a1, .int .i64 a2] w fun e w' => e = .returned (.bool true) ∧ Below w.heap.size w w' := by
  have HF := fun w => Lib.hid (fixed10 w)
  by_cases h5 : 10000 < a0.size
  · have q : decide ((10000 : Int) < (a0.size : Int)) = true := by simp; omega
    go_enter Try.func13, Try.ntmps13
    go_wp2_with (go_at_call 14; refine (HF _).out.mono ?_; rintro e w' ⟨rfl, hb⟩)
    go_ret
    exact ⟨rfl, hb⟩
  have q : decide ((10000 : Int) < (a0.size : Int)) = false := by simp; omega
  by_cases h6 : 1000 < a1.size
  · have q2 : decide ((1000 : Int) < (a1.size : Int)) = true := by simp; omega
    go_enter Try.func13, Try.ntmps13
    go_wp2_with (go_at_call 14; refine (HF _).out.mono ?_; rintro e w' ⟨rfl, hb⟩)
    go_ret
    exact ⟨rfl, hb⟩
  have q2 : decide ((1000 : Int) < (a1.size : Int)) = false := by simp; omega
  go_enter Try.func13, Try.ntmps13
  go_upto_block 0 with fail
  go_cut [] (fun wx => wx = w ∧ ∀ j (hj : j < a1.size), a1[j] ≠ 0)
  case first =>
    go_wp2_with fail
    go_loopw [7] (fun i wr => ∃ k : Nat, i = .int .i64 k ∧ k ≤ a1.size ∧ wr = w ∧ ∀ j (hj : j < a1.size), j < k → a1[j] ≠ 0) (fun i _ => a1.size - (intOf i).toNat)
    case atStart => exact ⟨0, rfl, by omega, rfl, fun j _ hj => by omega⟩
    case round =>
      obtain ⟨k, rfl, hk, rfl, hall⟩ := hrel
      by_cases hlt : k < a1.size
      · have q3 : decide ((k : Int) < (a1.size : Int)) = true := by simp; omega
        have q3' : decide (k < a1.size) = true := by simp; omega
        by_cases hz : a1[k] = 0
        · have q4 : ((a1[k].toNat : Int) == 0) = true := by rw [hz]; rfl
          clear hall hz
          go_wp2_with (go_at_call 14; refine (HF _).out.mono ?_; rintro e w' ⟨rfl, hb⟩)
          go_ret
          exact ⟨rfl, hb⟩
        · have q4 : ((a1[k].toNat : Int) == 0) = false := by
            have : a1[k].toNat ≠ 0 := fun q => hz (UInt8.toNat_inj.1 q)
            simp; omega
          have hall2 := Lib.hid (show ∀ j (hj : j < a1.size), j < k + 1 → a1[j] ≠ 0 from fun j hj hjk => by
            by_cases hjj : j = k
            · subst hjj; exact hz
            · exact hall j hj (by omega))
          clear hall hz
          go_wp2_with fail
          go_roundw
          case rel => exact ⟨k + 1, by go_num, by omega, trivial, hall2.out⟩
          case measure => simp [intOf]; omega
      · have q3 : decide ((k : Int) < (a1.size : Int)) = false := by simp; omega
        have q3' : decide (k < a1.size) = false := by simp; omega
        have hall2 := Lib.hid (show ∀ j (hj : j < a1.size), a1[j] ≠ 0 from fun j hj => hall j hj (by omega))
        clear hall
        go_wp2_with fail
        go_meet
        exact ⟨rfl, hall2.out⟩
  case rest =>
    obtain ⟨rfl, hall⟩ := hcut
    have hnm : ∀ c ∈ a1.data.toList, c ≠ 0 := by
      intro c hc
      obtain ⟨j, hj, rfl⟩ := List.getElem_of_mem hc
      have hj2 : j < a1.size := by rw [blen] at hj; exact hj
      have := hall j hj2
      rw [Array.getElem_toList]
      exact this
    clear hall
    have hl0 := blen a0
    have hl1 := blen a1
    have HL := fun w => Lib.hid (laid_go a0 a1 w (by omega) (by omega))
    have hlen := Gz.laid_len a0.data.toList a1.data.toList
    have hhd : (headL a1.data.toList).length ≤ 1011 := by
      unfold headL
      split
      · simp
      · rw [List.length_append, List.length_append, hl1]; simp; omega
    obtain ⟨k, hk, ek⟩ := and_mask a2 16777215 (by omega)
    have ek' : bits BinOp.and IntKind.i64 a2 16777215 = (k : Int) := ek
    generalize hkr : k % (8 * (a0.size + 8)) = kr at *
    have hkr2 : kr < 8 * (a0.size + 8) := by rw [← hkr]; exact Nat.mod_lt _ (by omega)
    have hr1 := fun t => Gz.back_run a0.data.toList a1.data.toList t hnm (by omega) (by omega)
    have hr2 := fun y => Gz.back_turned a0.data.toList a1.data.toList hnm (by omega) (by omega) (kr / 8) (by omega) y
    rw [hl0] at hr1 hr2 hlen
    generalize hM : laidL a0.data.toList a1.data.toList = M at *
    generalize (headL a1.data.toList).length = hd at *
    have hMs : (ByteArray.mk M.toArray).size = M.length := by simp [ByteArray.size]
    have eb : (⟨M.toArray⟩ ++ ⟨#[98, 101, 104, 105, 110, 100]⟩ : ByteArray).data.toList = M ++ [98, 101, 104, 105, 110, 100] := by rw [str_app]
    have hr1b := hr1 [98, 101, 104, 105, 110, 100]
    rw [← eb] at hr1b
    have H1 := fun w => Lib.hid (gone_run a0.size (⟨M.toArray⟩ ++ ⟨#[98, 101, 104, 105, 110, 100]⟩) w a0.data.toList 0 (some M.length) (by omega) (by rw [str_size, hMs]; show M.length + 6 ≤ _; omega) hr1b)
    unfold GOneIn at H1
    have g1 : gO a0.data.toList 0 (some M.length) = a0.data.toList := rfl
    have g2 : gN 0 (some M.length) = M.length := rfl
    have g3 : gE 0 (some M.length) = 0 := rfl
    have g4 : (⟨a0.data.toList.toArray⟩ : ByteArray) = a0 := rfl
    simp only [g1, g2, g3, g4] at H1
    clear hr1 hr1b eb g1 g2 g3 g4 hnm
    have f1 : ((k : Int) % (8 * ((a0.size : Int) + 8))) = (kr : Int) := by rw [← hkr]; simp
    obtain ⟨p, hp⟩ : ∃ p, p = hd + 5 + kr / 8 := ⟨_, rfl⟩
    rw [← hp] at hr2
    generalize hml : M.length = ml at *
    have f3 : ((ml : Int) - 8 - (a0.size : Int) + (kr : Int) / 8) = (p : Int) := by omega
    have hml2 : ml ≤ 20000 := by omega
    have hml3 : a0.size + 8 ≤ ml := by omega
    have hpl : p < ml := by omega
    have hkr3 : kr ≤ 100000 := by omega
    have hkr4 : kr % 8 < 8 := Nat.mod_lt _ (by omega)
    replace hlen := Lib.hid hlen
    replace hhd := Lib.hid hhd
    replace hp := Lib.hid hp
    replace hkr := Lib.hid hkr
    have hkr2' := Lib.hid hkr2
    clear hkr2 hk ek
    have hMl := hml
    replace hml := Lib.hid hml
    generalize hMb : (ByteArray.mk M.toArray) = mb at *
    clear hMl
    go_upto_region 15 with (first | (go_at_call 16; refine (HL _).out.mono ?_; rintro o w1 ⟨rfl, hb1⟩) | (go_at_call 17; refine (H1 _).out.mono ?_; rintro o w2 ⟨rfl, hb2⟩) | (go_at_call 14; refine (HF _).out.mono ?_; rintro e w3 ⟨rfl, hb3⟩; obtain ⟨cap, wv, hcap, hcv, hbv, hcell, hfz⟩ := conv_bytes w3 mb; have hB3 := Lib.hid (belThen (belThen (belThen hb1 hb2) hb3) hbv); have hgb := Lib.hid (Nat.le_trans hb1.size (Nat.le_trans hb2.size hb3.size)); replace hcell := Lib.hid hcell; replace hfz := Lib.hid hfz; clear hbv))
    have hpm : p < mb.size := by rw [hMs]; exact hpl
    have kc := hcell.out p hpm
    have kf := hfz.out p hpm
    generalize w3.heap.size = gb at *
    generalize hx : mb[p] = x at *
    replace hx := Lib.hid hx
    have d0 : (p : Int) < (mb.size : Int) := by omega
    go_region
    obtain ⟨ey, hy⟩ := flip_byte x (kr % 8) hkr4
    rw [ey]
    generalize UInt8.ofNat (x.toNat ^^^ 2 ^ (kr % 8)) = y at *
    have hMl : mb.data.toList = M := by rw [← hMb]
    have hMx : M[p]? = some x := by
      rw [← hMl, List.getElem?_eq_getElem (by rw [blen]; exact hpm), Array.getElem_toList, ← hx.out]
      rfl
    have hcells : ∀ j (hj : j < M.length), wv.cell? ⟨gb, j, none⟩ = some (.int .u8 (M[j].toNat : Int)) := by
      subst hMl
      intro j hj
      have hj2 : j < mb.size := by rw [← blen]; exact hj
      have := hcell.out j hj2
      rw [this, Array.getElem_toList]
      rfl
    have hcv2 := row_set wv gb p ml M y (by rw [hml.out]; exact hpl) hml.out hcells cap
    have hgbw : wc.heap.size ≤ gb := hgb.out
    have hBf := Lib.hid ((hB3.out.setCell (p := ⟨gb, p, none⟩) hgbw (.int .u8 (y.toNat : Int))).drew)
    have hrr := hr2 y (by rw [hMx]; intro q; injection q with q; exact hy q.symm)
    have hS2 : (ByteArray.mk (M.set p y).toArray).size = ml := by rw [← hml.out]; simp [ByteArray.size]
    have H2 := fun w => Lib.hid (gone_run a0.size ⟨(M.set p y).toArray⟩ w [] 101 none (by omega) (by rw [hS2]; omega) hrr)
    unfold GOneIn at H2
    have g3 : gE 101 none = 101 := rfl
    rw [g3] at H2
    generalize (wv.setCell ⟨gb, p, none⟩ (.int .u8 (y.toNat : Int))).drew = wf at *
    generalize gO [] 101 none = oo at *
    generalize gN 101 none = on at *
    clear hcells hMx hrr kc kf hy ey hS2 g3 hr2 hcv H1 HL HF
    go_wp2_with (go_at_call 17; refine (H2 _).out.mono ?_; rintro o w5 ⟨rfl, hb5⟩)
    go_ret
    exact ⟨rfl, belThen hBf.out hb5⟩
end Go.Proofs.Ytcjcmlnbchmnnaa
