/- the reference's Share: that of lengths: its contract. · the reference's Codes: the codes of lengths, or why they may not be: its contract. · the reference's Codes where lengths may not be: its contract. · X.code: its contract. · farrierref09.constant: the codes that are always the same: its contract. -/
import Derived.Test.YtcjcmlnbchmnnaaCounted
import Derived.Test.YtcjcmlnbchmnnaaCodes
import Derived.Test.YtcjcmlnbchmnnaaPl
import Derived.Test.YtcjcmlnbchmnnaaXA
import Derived.Test.YtcjcmlnbchmnnaaIFixed
import Derived.Maps.AppendAt
/-! ### Share -/
namespace Go.Proofs.Ytcjcmlnbchmnnaa
open Go.RowKit

theorem part_shr (l : Nat) (h : l ≤ 15) (h0 : l ≠ 0) : (32768 : Int) / 2 ^ l = (Hm.part l : Nat) := by
  unfold Hm.part; rw [if_neg h0]
  have e : (32768 : Nat) = 2 ^ (15 - l) * 2 ^ l := by rw [← Nat.pow_add, show 15 - l + l = 15 by omega]
  have : (32768 : Int) / 2 ^ l = ((32768 / 2 ^ l : Nat) : Int) := by simp
  rw [this, e, Nat.mul_div_cancel _ (Nat.two_pow_pos _)]

set_option maxRecDepth 100000 in
set_option maxHeartbeats 1000000 in
theorem share_in (ao : Option Addr) (cap : Nat) (ns : List Nat) (w : World) (hs : SInts w ao (ints ns)) (hsh : Hm.Short ns) (hl : ns.length ≤ 288) :
    Calls Try.prog 79 #[.slice ao ns.length cap] w fun e w' => e = .returned (.int .i64 (Hm.share ns : Nat)) ∧ w = w' := by
  go_enter Try.func79, Try.ntmps79
  go_wp2
  go_loop [3, 4] (fun sh i => ∃ k : Nat, k ≤ ns.length ∧ i = .int .i64 k ∧ sh = .int .i64 (Hm.share (ns.take k) : Nat)) (fun _ i => ns.length - (intOf i).toNat)
  case atStart => exact ⟨0, by omega, rfl, rfl⟩
  case round =>
    obtain ⟨k, hk, rfl, rfl⟩ := hrel
    by_cases hlt : k < ns.length
    · obtain ⟨b, o, hix, hc, hbl⟩ := hs.atN k hlt cap
      have hl15 := Hm.len_le hsh k
      have hsb : Hm.share (ns.take k) ≤ 9437184 := share_le ns k hl
      have HSH := Lib.hid (share_step ns k hlt)
      generalize hlk : Hm.len ns k = l at *
      clear hlk
      generalize Hm.share (ns.take k) = sh at *
      by_cases hz : l = 0
      · subst hz
        go_wp2
        go_round
        case rel => exact ⟨k + 1, by omega, by go_num, val_int (by rw [HSH.out]; simp [Hm.part])⟩
        case measure => simp [intOf]; omega
      · have hp := part_shr l hl15 hz
        have hpb : Hm.part l ≤ 32768 := by
          unfold Hm.part; rw [if_neg hz]; exact Nat.pow_le_pow_right (n := 2) (j := 15) (by omega) (by omega)
        have hp0 : (0 : Int) ≤ 32768 / 2 ^ l := by rw [hp]; omega
        have hp1 : (32768 : Int) / 2 ^ l ≤ 32768 := by rw [hp]; omega
        have HP := Lib.hid hp
        clear hp
        go_wp2
        go_round
        case rel => exact ⟨k + 1, by omega, by go_num, val_int (by rw [HSH.out, HP.out]; simp)⟩
        case measure => simp [intOf]; omega
    · obtain rfl : k = ns.length := by omega
      rw [List.take_length]
      go_wp2
      go_ret
      exact ⟨rfl, rfl⟩
/-- where lengths stop being what they may be -/
theorem first_stop {ls : List Int} (h : BadL ls) : ∃ (k : Nat) (x : Int), ls[k]? = some x ∧ k ≤ 288 ∧ (k = 288 ∨ x < 0 ∨ 15 < x) ∧ ∀ (j : Nat) (y : Int), j < k → ls[j]? = some y → 0 ≤ y ∧ y ≤ 15 := by
  by_cases hb : ∃ (k : Nat) (x : Int), (ls.take 288)[k]? = some x ∧ (x < 0 ∨ 15 < x)
  · obtain ⟨k, x, h1, h2, h3⟩ := first_bad hb
    have hk : k < (ls.take 288).length := (List.getElem?_eq_some_iff.1 h1).1
    rw [List.length_take] at hk
    refine ⟨k, x, by rw [← List.getElem?_take_of_lt (show k < 288 by omega)]; exact h1, by omega, .inr h2, fun j y hj hy => ?_⟩
    have := h3 j y hj (by rw [List.getElem?_take_of_lt (by omega)]; exact hy)
    omega
  · have hg : ∀ (j : Nat) (y : Int), j < 288 → ls[j]? = some y → 0 ≤ y ∧ y ≤ 15 := fun j y hj hy => by
      have : ¬ (y < 0 ∨ 15 < y) := fun hq => hb ⟨j, y, by rw [List.getElem?_take_of_lt hj]; exact hy, hq⟩
      omega
    have hl : 288 < ls.length := by
      rcases h with h | ⟨k, x, h1, h2⟩
      · exact h
      · have hk : k < ls.length := (List.getElem?_eq_some_iff.1 h1).1
        rcases Nat.lt_or_ge k 288 with h' | h'
        · have := hg k x h' h1; omega
        · omega
    exact ⟨288, ls[288], List.getElem?_eq_getElem hl, Nat.le_refl _, .inl rfl, fun j y hj hy => hg j y hj hy⟩

set_option maxRecDepth 100000 in
set_option maxHeartbeats 1000000 in
theorem share_out (ao : Option Addr) (cap : Nat) (ls : List Int) (w : World) (hs : SInts w ao ls) (hbad : BadL ls) :
    Calls Try.prog 79 #[.slice ao ls.length cap] w fun e w' => e = .returned (.int .i64 (-1)) ∧ w = w' := by
  obtain ⟨k0, x0, hk0, h288, hx0, hgood⟩ := first_stop hbad
  have hk0l : k0 < ls.length := (List.getElem?_eq_some_iff.1 hk0).1
  have HG := Lib.hid hgood
  have HK := Lib.hid hk0
  clear hgood hk0 hbad
  go_enter Try.func79, Try.ntmps79
  go_wp2
  go_loop [3, 4] (fun sh i => ∃ k : Nat, ∃ s : Int, k ≤ k0 ∧ i = .int .i64 k ∧ sh = .int .i64 s ∧ 0 ≤ s ∧ s ≤ 32768 * (k : Int)) (fun _ i => k0 - (intOf i).toNat)
  case atStart => exact ⟨0, 0, by omega, rfl, rfl, by omega, by omega⟩
  case round =>
    obtain ⟨k, s, hk, rfl, rfl, hs0, hs1⟩ := hrel
    by_cases hlt : k = k0
    · subst hlt
      by_cases h288' : k = 288
      · subst h288'
        go_wp2
        go_ret
        exact ⟨rfl, rfl⟩
      · obtain ⟨b, o, hix, hc, hbl⟩ := hs.at k _ HK.out cap
        have hx1 := hx0.resolve_left h288'
        clear hx0 HG hs0 hs1
        rcases hx1 with h1 | h1
        · go_wp2
          go_ret
          exact ⟨rfl, rfl⟩
        · go_wp2
          go_ret
          exact ⟨rfl, rfl⟩
    · have hkl : k < ls.length := by omega
      obtain ⟨b, o, hix, hc, hbl⟩ := hs.at k _ (List.getElem?_eq_getElem hkl) cap
      have hgd := HG.out k _ (by omega) (List.getElem?_eq_getElem hkl)
      generalize ls[k] = x at *
      obtain ⟨l, rfl⟩ := Int.eq_ofNat_of_zero_le hgd.1
      have hl15 : l ≤ 15 := by omega
      clear hgd hx0
      by_cases hz : l = 0
      · subst hz
        go_wp2
        go_round
        case rel => exact ⟨k + 1, s, by omega, by go_num, rfl, hs0, by omega⟩
        case measure => simp [intOf]; omega
      · have hp := part_shr l hl15 hz
        have hpb : Hm.part l ≤ 32768 := by
          unfold Hm.part; rw [if_neg hz]; exact Nat.pow_le_pow_right (n := 2) (j := 15) (by omega) (by omega)
        have hp0 : (0 : Int) ≤ 32768 / 2 ^ l := by rw [hp]; omega
        have hp1 : (32768 : Int) / 2 ^ l ≤ 32768 := by rw [hp]; omega
        clear hp hpb
        go_wp2
        go_round
        case rel => exact ⟨k + 1, _, by omega, by go_num, rfl, by omega, by omega⟩
        case measure => simp [intOf]; omega
end Go.Proofs.Ytcjcmlnbchmnnaa
/-! ### RCodes -/
namespace Go.Proofs.Ytcjcmlnbchmnnaa
open Go.RowKit

/-- codes found so far: those of lengths below l, and those of length l ahead of symbol i -/
def rcTo (ns : List Nat) (l i j : Nat) : Value := .int .i64 ((if Hm.len ns j ≠ 0 ∧ (Hm.len ns j < l ∨ (Hm.len ns j = l ∧ j < i)) then Hm.code ns j else 0 : Nat) : Int)

set_option maxRecDepth 100000 in
set_option maxHeartbeats 2000000 in
theorem rcodes_valid (ao : Option Addr) (cap : Nat) (ns : List Nat) (w : World) (hs : SInts w ao (ints ns)) (hsh : Hm.Short ns) (hl : ns.length ≤ 288) (herr : Hm.err ns = 0) (hsr : Hm.share ns ≤ 32768) :
    Calls Try.prog 60 #[.slice ao ns.length cap] w (CodesIn ns w) := by
  have hnf : ¬ (Hm.share ns < 32768 ∧ 0 < Hm.share ns ∧ (ns.count 1 ≠ 1 ∨ 16384 < Hm.share ns)) := by
    unfold Hm.err at herr
    rw [if_neg (by omega)] at herr
    intro h; rw [if_pos h] at herr; omega
  have HNF : Hid (Hm.share ns < 32768 → 0 < Hm.mny ns → ¬ 1 < Hm.mny ns ∧ Hm.lst 0 ns = 1) := fun h1 h2 => by
    have h3 := (Hm.mny_share ns hsh).1 h2
    have h4 := Hm.few_iff ns hsh h3
    have h5 : ¬ (1 < Hm.mny ns ∨ Hm.lst 0 ns ≠ 1) := fun h => hnf ⟨h1, h3, h4.1 h⟩
    omega
  clear hnf herr
  go_enter Try.func60, Try.ntmps60
  go_wp2_with fail
  refine (share_in ao cap ns w hs hsh hl).mono ?_
  rintro e w1 ⟨rfl, rfl⟩
  have d0 : decide (((Hm.share ns : Nat) : Int) < 0) = false := by simp
  have d1 : decide ((32768 : Int) < ((Hm.share ns : Nat) : Int)) = false := by simp; omega
  generalize hss : ((Hm.share ns : Nat) : Int) = sh at *
  have HSS := Lib.hid hss
  clear hss
  go_wp2_with fail
  clear d0 d1
  go_loop [5, 6, 7] (fun m la i => ∃ k : Nat, k ≤ ns.length ∧ i = .int .i64 k ∧ m = .int .i64 (Hm.mny (ns.take k) : Nat) ∧ la = .int .i64 (Hm.lst 0 (ns.take k) : Nat)) (fun _ _ i => ns.length - (intOf i).toNat)
  case atStart => exact ⟨0, by omega, rfl, rfl, rfl⟩
  case round =>
    obtain ⟨k, hk, rfl, rfl, rfl⟩ := hrel
    by_cases hlt : k < ns.length
    · obtain ⟨b, o, hix, hc, hbl⟩ := hs.atN k hlt cap
      have hmb := Hm.mny_le (ns.take k)
      rw [List.length_take] at hmb
      have HS1 : Hid (Hm.mny (ns.take (k + 1)) = Hm.mny (ns.take k) + if Hm.len ns k = 0 then 0 else 1) := by
        show _ = _; rw [List.take_succ_eq_append_getElem hlt, Hm.mny_snoc, Hm.len_get hlt]
      have HS2 : Hid (Hm.lst 0 (ns.take (k + 1)) = if Hm.len ns k = 0 then Hm.lst 0 (ns.take k) else Hm.len ns k) := by
        show _ = _; rw [List.take_succ_eq_append_getElem hlt, Hm.lst_snoc, Hm.len_get hlt]
      generalize Hm.len ns k = l at *
      generalize Hm.mny (ns.take k) = m at *
      generalize Hm.lst 0 (ns.take k) = la at *
      by_cases hz : l = 0
      · subst hz
        go_wp2
        go_round
        case rel => exact ⟨k + 1, by omega, by go_num, val_int (by rw [HS1.out]; simp), val_int (by rw [HS2.out]; simp)⟩
        case measure => simp [intOf]; omega
      · go_wp2
        go_round
        case rel => exact ⟨k + 1, by omega, by go_num, val_int (by rw [HS1.out, if_neg hz]; simp), val_int (by rw [HS2.out, if_neg hz])⟩
        case measure => simp [intOf]; omega
    · obtain rfl : k = ns.length := by omega
      rw [List.take_length]
      have hmk := run_make_row' (P := Try.prog) 32 3 (.int .i64 0) 8 Try.underlying32 infoInt rfl .i64 .i64 ns.length (by omega) (by omega)
      have H2 : Hid (¬ sh < 32768 ∨ ¬ 0 < Hm.mny ns ∨ (0 < Hm.mny ns ∧ ¬ 1 < Hm.mny ns ∧ Hm.lst 0 ns = 1)) := by
        have h1 := HNF.out
        have h2 := HSS.out
        show _ ∨ _
        by_cases a : Hm.share ns < 32768
        · by_cases b : 0 < Hm.mny ns
          · exact .inr (.inr ⟨b, h1 a b⟩)
          · exact .inr (.inl b)
        · left; omega
      generalize Hm.mny ns = m at *
      generalize Hm.lst 0 ns = la at *
      clear HNF hlt hk
      generalize hmi : ((m : Nat) : Int) = mi at *
      generalize hli : ((la : Nat) : Int) = li at *
      rcases H2.out with h2 | h2 | ⟨h2, h3, h4⟩
      case' inl =>
        have e1 : decide (sh < 32768) = false := by simp; omega
        clear h2 hmi hli H2
        go_wp2
      case' inr.inl =>
        have e2 : decide ((0 : Int) < mi) = false := by simp; omega
        by_cases h1 : sh < 32768
      case' inr.inr =>
        have e2 : decide ((0 : Int) < mi) = true := by simp; omega
        have e3 : decide ((1 : Int) < mi) = false := by simp; omega
        have e4 : (li != 1) = false := by rw [← hli, h4]; rfl
        by_cases h1 : sh < 32768
      all_goals try (have e1 : decide (sh < 32768) = true := by simpa using h1)
      all_goals try (have e1 : decide (sh < 32768) = false := by simpa using h1)
      all_goals try clear h1
      all_goals try clear h2 hmi hli H2
      all_goals try clear h3 h4
      all_goals try go_wp2
      all_goals
        clear hmk
        have hro := World.rowIs_made w (.int .i64 0) ns.length 3
        have hb3 := (Below.refl w.heap.size w).alloc (Nat.le_refl _) (.cells (madeCells #[.int .i64 0] ns.length) 3)
        go_loopw [9, 10, 11, 12, 13] (fun cd lg fi li _ wr => ∃ l c g : Nat, ∃ f : Bool, 1 ≤ l ∧ l ≤ 16 ∧ li = .int .i64 l ∧ cd = .int .i64 c ∧ lg = .int .i64 g ∧ fi = .bool f ∧ Hm.RC ns l 0 c g f ∧ wr.rowIs w.heap.size 3 ns.length (rcTo ns l 0) ∧ Below w.heap.size w wr) (fun _ _ _ li _ _ => 16 - (intOf li).toNat)
        case atStart =>
          refine ⟨1, 0, 0, true, by omega, by omega, rfl, rfl, rfl, rfl, Hm.RC_start ns, hro.congr fun j _ => ?_, hb3⟩
          unfold rcTo; rw [if_neg (by omega)]; rfl
        case round =>
          clear hro hb3
          obtain ⟨l, c, g, f, h1, h16, rfl, rfl, rfl, rfl, hrc, hrow, hbel⟩ := hrel
          by_cases hlt : l ≤ 15
          · have HRC := Lib.hid hrc
            clear hrc
            obtain ⟨wo, rfl⟩ : ∃ wo : World, wo = wr := ⟨_, rfl⟩
            go_wp2
            go_loopw [9, 10, 11, 13] (fun cd lg fi ii wr => ∃ i c g : Nat, ∃ f : Bool, i ≤ ns.length ∧ ii = .int .i64 i ∧ cd = .int .i64 c ∧ lg = .int .i64 g ∧ fi = .bool f ∧ Hm.RC ns l i c g f ∧ wr.rowIs w.heap.size 3 ns.length (rcTo ns l i) ∧ Below w.heap.size w wr) (fun _ _ _ ii _ => ns.length - (intOf ii).toNat)
            case atStart => exact ⟨0, c, g, f, by omega, rfl, rfl, rfl, rfl, HRC.out, hrow, hbel⟩
            case round =>
              clear hrow hbel HRC
              obtain ⟨i, c, g, f, hi, rfl, rfl, rfl, rfl, hrc, hrow, hbel⟩ := hrel
              by_cases hlt2 : i < ns.length
              · obtain ⟨b, o, hix, hc, hbl⟩ := hs.atN i hlt2 cap
                have hcr := (hbel.cell (p := ⟨b, o, none⟩) hbl).trans hc
                clear hc
                by_cases hhit : Hm.len ns i = l
                · have hnc := Hm.nxt_code h1 hhit
                  have hnb := Hm.nxt_le ns hsr l i h1 hlt
                  have HH := Lib.hid (Hm.RC_hit hlt2 h1 hhit)
                  have HLE := Lib.hid hhit
                  rw [hhit] at hcr
                  have ci : ∃ v, wr.cell? ⟨w.heap.size, i, none⟩ = some v := ⟨_, hrow.cell (i := i) hlt2⟩
                  obtain ⟨v, ci⟩ := ci
                  have fi := hrow.frozen i
                  have HEND : Hid (∀ (x : Int), x = (Hm.code ns i : Int) → ((wr.setCell ⟨w.heap.size, i, none⟩ (.int .i64 x)).rowIs w.heap.size 3 ns.length (rcTo ns l (i + 1)))) := fun x hx => by
                    refine (hrow.set i _).congr fun j _ => ?_
                    show (if j = i then _ else _) = _
                    unfold rcTo
                    by_cases hj : j = i
                    · subst hj; rw [if_pos rfl, hx, if_pos ⟨by omega, .inr ⟨hhit, by omega⟩⟩]
                    · rw [if_neg hj]
                      congr 3
                      apply propext
                      constructor <;> rintro ⟨a, b | ⟨b1, b2⟩⟩
                      · exact ⟨a, .inl b⟩
                      · exact ⟨a, .inr ⟨b1, by omega⟩⟩
                      · exact ⟨a, .inl b⟩
                      · exact ⟨a, .inr ⟨b1, by omega⟩⟩
                  clear hhit
                  rcases hrc with ⟨rfl, rfl, rfl, hn0⟩ | ⟨rfl, g1, g2, hn0⟩
                  · have HV : Hid ((0 : Int) = (Hm.code ns i : Int)) := by show _ = _; rw [hnc, hn0]; rfl
                    clear hn0 hnc hnb
                    go_wp2
                    go_roundw
                    case rel => exact ⟨i + 1, Hm.code ns i, l, false, by omega, by go_num, by rw [← HV.out], rfl, rfl, HH.out, HEND.out _ HV.out, hbel.setCell (Nat.le_refl _) _⟩
                    case measure => simp [intOf]; omega
                  · have HV : Hid (((c : Int) + 1) * 2 ^ (l - g) = (Hm.code ns i : Int)) := by
                      show _ = _; rw [hnc, ← hn0]; simp
                    have hpw : (c + 1) * 2 ^ (l - g) ≤ 32768 := by omega
                    have hp0 := Nat.two_pow_pos (l - g)
                    have hcb : c + 1 ≤ 32768 := Nat.le_trans (Nat.le_mul_of_pos_right _ hp0) hpw
                    have hx0 : ((c : Int) + 1) * 2 ^ (l - g) ≤ 32768 := by
                      have : ((c : Int) + 1) * 2 ^ (l - g) = (((c + 1) * 2 ^ (l - g) : Nat) : Int) := by simp
                      rw [this]; omega
                    have hx1 : (0 : Int) ≤ ((c : Int) + 1) * 2 ^ (l - g) := by
                      have : ((c : Int) + 1) * 2 ^ (l - g) = (((c + 1) * 2 ^ (l - g) : Nat) : Int) := by simp
                      rw [this]; omega
                    have s3 : ((l : Int) - (g : Int)).toNat = l - g := by omega
                    clear hn0 hnc hnb hpw hp0
                    go_wp2
                    go_roundw
                    case rel => exact ⟨i + 1, Hm.code ns i, l, false, by omega, by go_num, by rw [← HV.out], rfl, rfl, HH.out, HEND.out _ HV.out, hbel.setCell (Nat.le_refl _) _⟩
                    case measure => simp [intOf]; omega
                · have hne : (((Hm.len ns i : Nat) : Int) != (l : Int)) = true := by rw [bne_iff_ne]; omega
                  have HH := Lib.hid (Hm.RC_skip hrc hlt2 hhit)
                  have HQ := Lib.hid (hrow.congr (g := rcTo ns l (i + 1)) fun j _ => by
                    unfold rcTo
                    congr 3
                    apply propext
                    constructor <;> rintro ⟨a, b | ⟨b1, b2⟩⟩
                    · exact ⟨a, .inl b⟩
                    · exact ⟨a, .inr ⟨b1, by omega⟩⟩
                    · exact ⟨a, .inl b⟩
                    · refine ⟨a, .inr ⟨b1, ?_⟩⟩
                      rcases Nat.lt_or_ge j i with h | h
                      · exact h
                      · exfalso; apply hhit; rw [← b1]; congr 1; omega)
                  clear hrc hhit hrow
                  generalize ((Hm.len ns i : Nat) : Int) = ln at *
                  go_wp2
                  go_roundw
                  case rel => exact ⟨i + 1, c, g, f, by omega, by go_num, rfl, rfl, rfl, HH.out, HQ.out, hbel⟩
                  case measure => simp [intOf]; omega
              · obtain rfl : i = ns.length := by omega
                have HH := Lib.hid (Hm.RC_next hrc h1)
                have HQ := Lib.hid (hrow.congr (g := rcTo ns (l + 1) 0) fun j hj => by
                  unfold rcTo
                  congr 3
                  apply propext
                  constructor <;> rintro ⟨a, b | ⟨b1, b2⟩⟩
                  · exact ⟨a, .inl (by omega)⟩
                  · exact ⟨a, .inl (by omega)⟩
                  · refine ⟨a, ?_⟩
                    rcases Nat.lt_or_ge (Hm.len ns j) l with h | h
                    · exact .inl h
                    · exact .inr ⟨by omega, hj⟩
                  · omega)
                clear hrc hrow
                go_wp2
                go_roundw
                case rel => exact ⟨l + 1, c, g, f, by omega, by omega, by go_num, rfl, rfl, rfl, HH.out, HQ.out, hbel⟩
                case measure => simp [intOf]; omega
          · obtain rfl : l = 16 := by omega
            clear hrc
            go_wp2
            go_ret2
            refine ⟨w.heap.size, Nat.le_refl _, rfl, hrow.congr fun j _ => ?_, hbel⟩
            unfold rcTo cdf
            have h15 := Hm.len_le hsh j
            by_cases hz : Hm.len ns j = 0
            · rw [if_neg (fun h => h.1 hz)]; unfold Hm.code; rw [if_pos hz]
            · rw [if_pos ⟨hz, .inl (by omega)⟩]
end Go.Proofs.Ytcjcmlnbchmnnaa
/-! ### RCodesE -/
namespace Go.Proofs.Ytcjcmlnbchmnnaa
open Go.RowKit

set_option maxRecDepth 100000 in
set_option maxHeartbeats 2000000 in
theorem rcodes_err (ao : Option Addr) (cap : Nat) (ns : List Nat) (w : World) (hs : SInts w ao (ints ns)) (hsh : Hm.Short ns) (hl : ns.length ≤ 288) (herr : Hm.err ns ≠ 0) :
    Calls Try.prog 60 #[.slice ao ns.length cap] w fun e w' => e = .returned (.tuple #[.slice none 0 0, .int .i64 (Hm.err ns)]) ∧ Below w.heap.size w w' := by
  by_cases h81 : 32768 < Hm.share ns
  · have HE : Hid (Hm.err ns = 81) := by show _ = _; unfold Hm.err; rw [if_pos h81]
    clear herr
    go_enter Try.func60, Try.ntmps60
    go_wp2_with fail
    refine (share_in ao cap ns w hs hsh hl).mono ?_
    rintro e w1 ⟨rfl, rfl⟩
    have d0 : decide (((Hm.share ns : Nat) : Int) < 0) = false := by simp
    have d1 : decide ((32768 : Int) < ((Hm.share ns : Nat) : Int)) = true := by simp; omega
    generalize ((Hm.share ns : Nat) : Int) = sh at *
    go_wp2_with fail
    go_ret2
    exact ⟨by rw [HE.out]; rfl, Below.refl _ _⟩
  · have hc : Hm.share ns < 32768 ∧ 0 < Hm.share ns ∧ (ns.count 1 ≠ 1 ∨ 16384 < Hm.share ns) := by
      unfold Hm.err at herr
      rw [if_neg h81] at herr
      by_cases h : Hm.share ns < 32768 ∧ 0 < Hm.share ns ∧ (ns.count 1 ≠ 1 ∨ 16384 < Hm.share ns)
      · exact h
      · rw [if_neg h] at herr; exact absurd rfl herr
    have HE : Hid (Hm.err ns = 82) := by show _ = _; unfold Hm.err; rw [if_neg h81, if_pos hc]
    have hm0 := (Hm.mny_share ns hsh).2 hc.2.1
    have hfew := (Hm.few_iff ns hsh hc.2.1).2 hc.2.2
    have HF := Lib.hid hfew
    have hlt32 := hc.1
    clear herr hc hfew
    go_enter Try.func60, Try.ntmps60
    go_wp2_with fail
    refine (share_in ao cap ns w hs hsh hl).mono ?_
    rintro e w1 ⟨rfl, rfl⟩
    have d0 : decide (((Hm.share ns : Nat) : Int) < 0) = false := by simp
    have d1 : decide ((32768 : Int) < ((Hm.share ns : Nat) : Int)) = false := by simp; omega
    have d2 : decide (((Hm.share ns : Nat) : Int) < 32768) = true := by simp; omega
    clear hlt32 h81
    generalize ((Hm.share ns : Nat) : Int) = sh at *
    go_wp2_with fail
    clear d0 d1
    go_loop [5, 6, 7] (fun m la i => ∃ k : Nat, k ≤ ns.length ∧ i = .int .i64 k ∧ m = .int .i64 (Hm.mny (ns.take k) : Nat) ∧ la = .int .i64 (Hm.lst 0 (ns.take k) : Nat)) (fun _ _ i => ns.length - (intOf i).toNat)
    case atStart => exact ⟨0, by omega, rfl, rfl, rfl⟩
    case round =>
      obtain ⟨k, hk, rfl, rfl, rfl⟩ := hrel
      by_cases hlt : k < ns.length
      · obtain ⟨b, o, hix, hc, hbl⟩ := hs.atN k hlt cap
        have hmb := Hm.mny_le (ns.take k)
        rw [List.length_take] at hmb
        have HS1 : Hid (Hm.mny (ns.take (k + 1)) = Hm.mny (ns.take k) + if Hm.len ns k = 0 then 0 else 1) := by
          show _ = _; rw [List.take_succ_eq_append_getElem hlt, Hm.mny_snoc, Hm.len_get hlt]
        have HS2 : Hid (Hm.lst 0 (ns.take (k + 1)) = if Hm.len ns k = 0 then Hm.lst 0 (ns.take k) else Hm.len ns k) := by
          show _ = _; rw [List.take_succ_eq_append_getElem hlt, Hm.lst_snoc, Hm.len_get hlt]
        clear hm0 d2
        generalize Hm.len ns k = l at *
        generalize Hm.mny (ns.take k) = m at *
        generalize Hm.lst 0 (ns.take k) = la at *
        by_cases hz : l = 0
        · subst hz
          go_wp2
          go_round
          case rel => exact ⟨k + 1, by omega, by go_num, val_int (by rw [HS1.out]; simp), val_int (by rw [HS2.out]; simp)⟩
          case measure => simp [intOf]; omega
        · go_wp2
          go_round
          case rel => exact ⟨k + 1, by omega, by go_num, val_int (by rw [HS1.out, if_neg hz]; simp), val_int (by rw [HS2.out, if_neg hz])⟩
          case measure => simp [intOf]; omega
      · obtain rfl : k = ns.length := by omega
        rw [List.take_length]
        have e2 : decide ((0 : Int) < ((Hm.mny ns : Nat) : Int)) = true := by simp; omega
        have hcase := HF.out
        have e34 : (decide ((1 : Int) < ((Hm.mny ns : Nat) : Int)) = true) ∨ (decide ((1 : Int) < ((Hm.mny ns : Nat) : Int)) = false ∧ (((Hm.lst 0 ns : Nat) : Int) != 1) = true) := by
          by_cases h : 1 < Hm.mny ns
          · left; simp; omega
          · right; exact ⟨by simp; omega, by rw [bne_iff_ne]; omega⟩
        clear hcase HF hm0
        generalize ((Hm.mny ns : Nat) : Int) = mi at *
        generalize ((Hm.lst 0 ns : Nat) : Int) = li at *
        rcases e34 with e3 | ⟨e3, e4⟩
        · go_wp2
          go_ret2
          exact ⟨by rw [HE.out]; rfl, Below.refl _ _⟩
        · go_wp2
          go_ret2
          exact ⟨by rw [HE.out]; rfl, Below.refl _ _⟩
theorem rcodes_out (ao : Option Addr) (cap : Nat) (ls : List Int) (w : World) (hs : SInts w ao ls) (hbad : BadL ls) :
    Calls Try.prog 60 #[.slice ao ls.length cap] w fun e w' => e = .returned (.tuple #[.slice none 0 0, .int .i64 80]) ∧ Below w.heap.size w w' := by
  go_enter Try.func60, Try.ntmps60
  go_wp2_with fail
  refine (share_out ao cap ls w hs hbad).mono ?_
  rintro e w1 ⟨rfl, rfl⟩
  go_wp2_with fail
  go_ret2
  exact ⟨rfl, Below.refl _ _⟩
end Go.Proofs.Ytcjcmlnbchmnnaa
/-! ### XCode -/
namespace Go.Proofs.Ytcjcmlnbchmnnaa
open Go.RowKit

theorem SInts.frX {X : Nat} {w w' : World} {ao : Option Addr} {ls : List Int} (h : SInts w ao ls) (hf : Fr (· = X) w w') (hne : ∀ b off, ao = some ⟨b, off, none⟩ → b ≠ X) : SInts w' ao ls := fun j x hj => by
  obtain ⟨b, off, h1, h2⟩ := h j x hj
  exact ⟨b, off, h1, by rw [hf.cell (p := ⟨b, off + j, none⟩) (World.block_lt_of_cell? w _ h2) (hne b off h1)]; exact h2⟩
def CodeYes (X B : Nat) (s : ByteArray) (most : Nat) (ns : List Nat) (x : Px) (lv : Value) (w : World) (o : Ending) (w' : World) : Prop :=
  ∃ tv, o = .returned (.agg #[lv, tv]) ∧ TreeAt w' tv ns ∧ XIs w' X B s most x ∧ Fr (· = X) w w'
set_option maxRecDepth 100000 in
set_option maxHeartbeats 2000000 in
theorem code_yes (X B : Nat) (s : ByteArray) (most : Nat) (x : Px) (ao : Option Addr) (cap : Nat) (ns : List Nat) (w : World) (h : XIs w X B s most x) (hS : SInts w ao (ints ns)) (hne : ∀ b off, ao = some ⟨b, off, none⟩ → b ≠ X) (hsh : Hm.Short ns) (hl : ns.length ≤ 288) (he : Hm.err ns = 0) :
    Calls Try.prog 67 #[.pointer (some ⟨X, 0, none⟩), .slice ao ns.length cap] w (CodeYes X B s most ns x (.slice ao ns.length cap) w) := by
  have hsr := Im.err_share he
  have hW0 := (Below.refl w.heap.size w).alloc (Nat.le_refl _) (.cells #[.slice none 0 0, .slice none 0 0] 76)
  have HI := Lib.hid (h.below hW0)
  have HF := Lib.hid (Fr.of_below (S := (· = X)) hW0)
  have HS := Lib.hid (hS.later hW0)
  have hnew := heap_alloc_new w (.cells #[.slice none 0 0, .slice none 0 0] 76)
  have hXz := h.lt
  have HC := rcodes_valid ao cap ns (w.alloc (.cells #[.slice none 0 0, .slice none 0 0] 76)) HS.out hsh hl he hsr
  have HW := fun w1 (h1 : XIs w1 X B s most x) => Lib.hid (wrong_px X B s most x true 90 w1 h1)
  simp only [Px.wrong_yes] at HW
  have HT := fun gm w1 h1 h2 => Lib.hid (tree_go ao cap gm ns w1 h1 h2 hsh hl hsr)
  clear hS he
  go_enter Try.func67, Try.ntmps67
  go_wp2_with (go_at_call 60; refine HC.mono ?_; rintro o w1 ⟨gm, hgm, rfl, hrm, hb1⟩; clear HC)
  have hz1 := hW0.size
  generalize (w.alloc (.cells #[.slice none 0 0, .slice none 0 0] 76)) = wa at *
  have HXN : Hid (X ≠ w.heap.size ∧ w.heap.size < wa.heap.size) := Lib.hid ⟨by omega, lt_of_block hnew⟩
  have h1 := HI.out.below hb1
  have hs1 := HS.out.later hb1
  have hn1 := (hb1.block w.heap.size HXN.out.2).trans hnew
  have hF1 := HF.out.below hb1
  have hgX : gm ≠ X := by omega
  clear hnew hb1 HI HF HS hW0 hgm hz1 hXz h
  replace hn1 := Lib.hid hn1
  replace hgX := Lib.hid hgX
  go_wp2_with (first | (go_at_call 50; refine (HW _ h1).out.mono ?_; rintro o w2 ⟨rfl, h2, hf2⟩; clear HW; have hs2 := hs1.frX hf2 hne; have hr2 := hrm.of_block (hf2.block gm hrm.lt hgX.out); have hn2 := (hf2.block w.heap.size (lt_of_block hn1.out) (fun e => HXN.out.1 e.symm)).trans hn1.out; replace hn2 := Lib.hid hn2; have hF2 := hF1.trans hf2) | (go_at_call 61; refine (HT gm _ hs2 hr2).out.mono ?_; rintro o w3 ⟨g, N, hg, hN, rfl, hr3, hb3⟩; clear HT; have hn3 := (hb3.block w.heap.size (lt_of_block hn2.out)).trans hn2.out; have h3 := h2.below hb3; have hF3 := hF2.below hb3; replace hN := Lib.hid hN; replace hg := Lib.hid hg; have k0 := cell_of_row w3 w.heap.size 0 _ _ _ hn3; have k1 := cell_of_row w3 w.heap.size 1 _ _ _ hn3; have f0 := frozen_of_row w3 w.heap.size 0 _ _ hn3; have f1 := frozen_of_row w3 w.heap.size 1 _ _ hn3; have HN3 := Lib.hid hn3; clear hn3))
  have hf4 := ((Fr.refl (· = w.heap.size) w3).setCell (p := ⟨w.heap.size, 0, none⟩) (Or.inl rfl) (.slice ao ns.length cap)).setCell (p := ⟨w.heap.size, 1, none⟩) (Or.inl rfl) (.slice (some ⟨g, 0, none⟩) N N)
  have h4 := h3.frS hf4 HXN.out.1 (fun k ⟨_, hk⟩ => row_apart HN3.out hk (by decide))
  have ht4 : TreeAt _ (.slice (some ⟨g, 0, none⟩) N N) ns := (show TreeAt w3 _ ns from ⟨g, N, hN.out, rfl, hr3⟩).frS hf4 (fun k c hk => row_apart HN3.out hk (by decide))
  have hF4 := hF3.then hf4 (fun i hi e => by omega)
  exact bodyPost_ret (v := .agg #[.slice ao ns.length cap, .slice (some ⟨g, 0, none⟩) N N]) (by simp [results, Try.results67, go_sem, k0, k1]) rfl ⟨_, rfl, ht4, h4, hF4⟩
/-- a code that may not be -/
def noCode : Value := .agg #[.slice none 0 0, .slice none 0 0]
set_option maxRecDepth 100000 in
set_option maxHeartbeats 2000000 in
theorem code_no (X B : Nat) (s : ByteArray) (most : Nat) (x : Px) (ao : Option Addr) (cap : Nat) (ns : List Nat) (w : World) (h : XIs w X B s most x) (hS : SInts w ao (ints ns)) (hsh : Hm.Short ns) (hl : ns.length ≤ 288) (he : Hm.err ns ≠ 0) :
    Calls Try.prog 67 #[.pointer (some ⟨X, 0, none⟩), .slice ao ns.length cap] w fun o w' => o = .returned noCode ∧ XIs w' X B s most (x.wrong false 90) ∧ Fr (· = X) w w' := by
  have hW0 := (Below.refl w.heap.size w).alloc (Nat.le_refl _) (.cells #[.slice none 0 0, .slice none 0 0] 76)
  have HI := Lib.hid (h.below hW0)
  have HF := Lib.hid (Fr.of_below (S := (· = X)) hW0)
  have HS := Lib.hid (hS.later hW0)
  have hnew := heap_alloc_new w (.cells #[.slice none 0 0, .slice none 0 0] 76)
  have hXz := h.lt
  have HC := rcodes_err ao cap ns (w.alloc (.cells #[.slice none 0 0, .slice none 0 0] 76)) HS.out hsh hl he
  have HW := fun w1 (h1 : XIs w1 X B s most x) => Lib.hid (wrong_px X B s most x false 90 w1 h1)
  have q1 : (Hm.err ns == 0) = false := by simpa using he
  have q2 : (Hm.err ns != 0) = true := by simpa using he
  clear hS he
  generalize Hm.err ns = er at *
  go_enter Try.func67, Try.ntmps67
  go_wp2_with (go_at_call 60; refine HC.mono ?_; rintro o w1 ⟨rfl, hb1⟩; clear HC)
  have hz1 := hW0.size
  generalize (w.alloc (.cells #[.slice none 0 0, .slice none 0 0] 76)) = wa at *
  have HXN : Hid (X ≠ w.heap.size ∧ w.heap.size < wa.heap.size) := Lib.hid ⟨by omega, lt_of_block hnew⟩
  have h1 := HI.out.below hb1
  have hn1 := (hb1.block w.heap.size HXN.out.2).trans hnew
  have hF1 := HF.out.below hb1
  clear hnew hb1 HI HF HS hW0 hz1 hXz h
  replace hn1 := Lib.hid hn1
  go_wp2_with (go_at_call 50; refine (HW _ h1).out.mono ?_; rintro o w3 ⟨rfl, h3, hf2⟩; clear HW; have hn3 := (hf2.block w.heap.size (lt_of_block hn1.out) (fun e => HXN.out.1 e.symm)).trans hn1.out; have hF3 := hF1.trans hf2; have k0 := cell_of_row w3 w.heap.size 0 _ _ _ hn3; have k1 := cell_of_row w3 w.heap.size 1 _ _ _ hn3; have f0 := frozen_of_row w3 w.heap.size 0 _ _ hn3; have f1 := frozen_of_row w3 w.heap.size 1 _ _ hn3; have HN3 := Lib.hid hn3; clear hn3)
  have hf4 := ((Fr.refl (· = w.heap.size) w3).setCell (p := ⟨w.heap.size, 0, none⟩) (Or.inl rfl) (.slice none 0 0)).setCell (p := ⟨w.heap.size, 1, none⟩) (Or.inl rfl) (.slice none 0 0)
  have h4 := h3.frS hf4 HXN.out.1 (fun k ⟨_, hk⟩ => row_apart HN3.out hk (by decide))
  have hF4 := hF3.then hf4 (fun i hi e => by omega)
  exact bodyPost_ret (v := .agg #[.slice none 0 0, .slice none 0 0]) (by simp [results, Try.results67, go_sem, k0, k1]) rfl ⟨rfl, h4, hF4⟩
/-- a slice -/
def IsS (v : Value) : Prop := ∃ a n c, v = .slice a n c
theorem TreeAt.isS {w : World} {v : Value} {ns : List Nat} (h : TreeAt w v ns) : IsS v := by obtain ⟨g, N, _, rfl, _⟩ := h; exact ⟨_, _, _, rfl⟩
def CodeAny (X B : Nat) (s : ByteArray) (most : Nat) (ns : List Nat) (x : Px) (w : World) (o : Ending) (w' : World) : Prop :=
  ∃ cl tv, o = .returned (.agg #[cl, tv]) ∧ IsS cl ∧ IsS tv ∧ XIs w' X B s most (x.wrong (decide (Hm.err ns = 0)) 90) ∧ (Hm.err ns = 0 → TreeAt w' tv ns) ∧ Fr (· = X) w w'
theorem code_any (X B : Nat) (s : ByteArray) (most : Nat) (x : Px) (ao : Option Addr) (cap : Nat) (ns : List Nat) (w : World) (h : XIs w X B s most x) (hS : SInts w ao (ints ns)) (hne : ∀ b off, ao = some ⟨b, off, none⟩ → b ≠ X) (hsh : Hm.Short ns) (hl : ns.length ≤ 288) :
    Calls Try.prog 67 #[.pointer (some ⟨X, 0, none⟩), .slice ao ns.length cap] w (CodeAny X B s most ns x w) := by
  by_cases he : Hm.err ns = 0
  · refine (code_yes X B s most x ao cap ns w h hS hne hsh hl he).mono ?_
    rintro o w' ⟨tv, h1, h2, h3, h4⟩
    exact ⟨_, tv, h1, ⟨_, _, _, rfl⟩, h2.isS, by rw [decide_eq_true he, Px.wrong_yes]; exact h3, fun _ => h2, h4⟩
  · refine (code_no X B s most x ao cap ns w h hS hsh hl he).mono ?_
    rintro o w' ⟨h1, h2, h3⟩
    exact ⟨_, _, h1, ⟨_, _, _, rfl⟩, ⟨_, _, _, rfl⟩, by rw [decide_eq_false he]; exact h2, fun q => absurd q he, h3⟩
end Go.Proofs.Ytcjcmlnbchmnnaa
/-! ### XConst -/
namespace Go.Proofs.Ytcjcmlnbchmnnaa
open Go.RowKit

theorem IRow.grownOther {w w' : World} {B : Nat} {u v : Value} {m : List Nat} (h : IRow w B u m) (g : w.grownBy w' v.ownBlock) (hne : v.ownBlock ≠ u.ownBlock ∨ u.ownBlock = none) : IRow w' B u m := by
  refine ⟨h.1, ?_⟩
  rcases h.2 with hn | ⟨b, cap, cur, rfl, h1, hb, rest⟩
  · exact .inl hn
  · refine .inr ⟨b, cap, cur, rfl, h1, ?_, rest⟩
    rw [g.block b (lt_of_block hb)]
    · exact hb
    · intro e
      rcases hne with q | q
      · exact q e.symm
      · simp [Value.ownBlock] at q
theorem IRow.below {w w' : World} {B : Nat} {v : Value} {l : List Nat} (h : IRow w B v l) (hb : Below w.heap.size w w') : IRow w' B v l := by
  refine ⟨h.1, ?_⟩
  rcases h.2 with hn | ⟨g, cap, cur, rfl, h1, hg, rest⟩
  · exact .inl hn
  · exact .inr ⟨g, cap, cur, rfl, h1, by rw [hb.block g (lt_of_block hg)]; exact hg, rest⟩
/-- append of one int to a row that the call owns -/
theorem wpList_int {ops : Array Oper} {rest : List Oper} {o : Oper} {a : Act} {Q : Exit → Act → World → Prop} {w : World} (hgd : o.guard = none) (sl x : Operand)
    (ho : o.op = .call { callee := .builtin .append, args := #[sl, x], argTypes := #[32, 32] }) (B : Nat) (v : Value) (l : List Nat) (hs : a.eval sl = v) (hown : IRow w B v l) (n : Nat) (k : Int) (hk : k = (n : Int))
    (hx : a.eval x = .slice (some ⟨w.heap.size, 0, none⟩) 1 1) (hz : l.length ≤ 1000000) (hB : B ≤ w.heap.size)
    (h : ∀ v' w', IRow w' B v' (l ++ [n]) → (w.alloc (.cells #[.int .i64 k] 3)).grownBy w' v.ownBlock → (v'.ownBlock = v.ownBlock ∨ v'.ownBlock = some (w.alloc (.cells #[.int .i64 k] 3)).heap.size) → wpList Try.prog ops Q rest (a.put o.dst v') w') : wpList Try.prog ops Q (o :: rest) a (w.alloc (.cells #[.int .i64 k] 3)) := by
  subst hk
  obtain ⟨i0, hi, hz0, hz1, hz2⟩ := info_int_parts
  refine wpList_append_own_at _ hgd sl x 32 ho B 3 i0 (.int .i64 0) 1 8 Try.underlying32 hi hz0 hz1 hz2 rfl (by decide) v l.length (nvals l) hs (World.ownsRow.alloc hown _) ⟨w.heap.size, 0, none⟩ 1 1 (nvals [n]) hx rfl (new_ints _ _ _ _ rfl) (nvals_one' _) (by unfold maxLen; omega) (by omega) (by simp; omega) ?_
  intro v' w' h1 h2 _ h4
  refine h v' w' ?_ h2 h4
  unfold IRow
  rw [nvals_append, List.length_append]; exact h1
/-- two rows of ints in memory of the call's own -/
structure Rows2 (w0 w : World) (u v : Value) (l m : List Nat) : Prop where
  r1 : IRow w w0.heap.size u l
  r2 : IRow w w0.heap.size v m
  ne : u.ownBlock ≠ v.ownBlock
  bel : Below w0.heap.size w0 w
theorem Rows2.push1 {w0 w w1 : World} {u v u' : Value} {l m : List Nat} {x : Nat} {o : Obj} (h : Rows2 w0 w u v l m) (hr : IRow w1 w0.heap.size u' (l ++ [x])) (g : (w.alloc o).grownBy w1 u.ownBlock) (hb : u'.ownBlock = u.ownBlock ∨ u'.ownBlock = some (w.alloc o).heap.size) : Rows2 w0 w1 u' v (l ++ [x]) m := by
  have ha : Below w.heap.size w (w.alloc o) := (Below.refl _ _).alloc (Nat.le_refl _) o
  refine ⟨hr, (h.r2.below ha).grownOther g (Or.inl h.ne), ?_, (h.bel.alloc h.bel.size o).grown g (Nat.le_trans h.bel.size ha.size) fun k hk => (h.r1.row k hk).1⟩
  rcases hb with q | q
  · rw [q]; exact h.ne
  · rw [q]
    intro e
    have := (h.r2.row _ e.symm).2.1
    simp at this
    omega
theorem Rows2.push2 {w0 w w1 : World} {u v v' : Value} {l m : List Nat} {x : Nat} {o : Obj} (h : Rows2 w0 w u v l m) (hr : IRow w1 w0.heap.size v' (m ++ [x])) (g : (w.alloc o).grownBy w1 v.ownBlock) (hb : v'.ownBlock = v.ownBlock ∨ v'.ownBlock = some (w.alloc o).heap.size) : Rows2 w0 w1 u v' l (m ++ [x]) := by
  have ha : Below w.heap.size w (w.alloc o) := (Below.refl _ _).alloc (Nat.le_refl _) o
  refine ⟨(h.r1.below ha).grownOther g (Or.inl fun e => h.ne e.symm), hr, ?_, (h.bel.alloc h.bel.size o).grown g (Nat.le_trans h.bel.size ha.size) fun k hk => (h.r2.row k hk).1⟩
  rcases hb with q | q
  · rw [q]; exact h.ne
  · rw [q]
    intro e
    have := (h.r1.row _ e).2.1
    simp at this
    omega
theorem rows2_start (W : World) : Rows2 W ((W.alloc (.cells #[] 3)).alloc (.cells #[] 3)) (.slice (some ⟨W.heap.size, 0, none⟩) 0 0) (.slice (some ⟨W.heap.size + 1, 0, none⟩) 0 0) [] [] := by
  have e3 : (W.alloc (.cells #[] 3)).heap.size = W.heap.size + 1 := by simp
  have h1 : (W.alloc (.cells #[] 3)).ownsRow W.heap.size 3 1 (.slice (some ⟨W.heap.size, 0, none⟩) 0 0) 0 [] := World.ownsRow_made (e := 3) (size := 1) (base := W.heap.size) W #[] 0 (Nat.le_refl _) (by unfold maxLen; omega) rfl
  have h2 : ((W.alloc (.cells #[] 3)).alloc (.cells #[] 3)).ownsRow W.heap.size 3 1 (.slice (some ⟨W.heap.size + 1, 0, none⟩) 0 0) 0 [] := by
    have := World.ownsRow_made (e := 3) (size := 1) (base := W.heap.size) (W.alloc (.cells #[] 3)) #[] 0 (by rw [e3]; omega) (by unfold maxLen; omega) rfl
    rwa [e3] at this
  refine ⟨h1.alloc _, h2, by simp [Value.ownBlock], ?_⟩
  exact ((Below.refl _ _).alloc (Nat.le_refl _) _).alloc (by simp) _
theorem at_bel {w w' : World} {g : Nat} {o : Obj} (h : w.heap[g]? = some o) (hb : Below w.heap.size w w') : w'.heap[g]? = some o := by rw [hb.block g (Array.getElem?_eq_some_iff.1 h).1]; exact h
def ConstIn (w : World) (o : Ending) (w' : World) : Prop := ∃ c1 t1 c2 t2, o = .returned (.tuple #[.agg #[c1, t1], .agg #[c2, t2]]) ∧ IsS c1 ∧ IsS c2 ∧ TreeAt w' t1 Im.fixLit ∧ TreeAt w' t2 Im.fixDist ∧ Below w.heap.size w w'
set_option maxRecDepth 100000 in
set_option maxHeartbeats 4000000 in
theorem constant_go (w : World) : Calls Try.prog 44 #[] w (ConstIn w) := by
  go_enter Try.func44, Try.ntmps44
  go_wp2
  have hW0 : Below w.heap.size w ((w.alloc (.cells #[.slice none 0 0, .slice none 0 0] 76)).alloc (.cells #[.slice none 0 0, .slice none 0 0] 76)) := ((Below.refl w.heap.size w).alloc (Nat.le_refl _) _).alloc (by simp) _
  have hx1 : ((w.alloc (.cells #[.slice none 0 0, .slice none 0 0] 76)).alloc (.cells #[.slice none 0 0, .slice none 0 0] 76)).heap[w.heap.size]? = some (.cells #[.slice none 0 0, .slice none 0 0] 76 (0, 0)) := by rw [Below.heap_alloc _ _ _ (by simp)]; exact heap_alloc_new w _
  have hx2 : ((w.alloc (.cells #[.slice none 0 0, .slice none 0 0] 76)).alloc (.cells #[.slice none 0 0, .slice none 0 0] 76)).heap[w.heap.size + 1]? = some (.cells #[.slice none 0 0, .slice none 0 0] 76 (0, 0)) := by
    have := heap_alloc_new (w.alloc (.cells #[.slice none 0 0, .slice none 0 0] 76)) (.cells #[.slice none 0 0, .slice none 0 0] 76)
    rwa [show (w.alloc (.cells #[.slice none 0 0, .slice none 0 0] 76)).heap.size = w.heap.size + 1 by simp] at this
  have hR := rows2_start ((w.alloc (.cells #[.slice none 0 0, .slice none 0 0] 76)).alloc (.cells #[.slice none 0 0, .slice none 0 0] 76))
  have hWs : ((w.alloc (.cells #[.slice none 0 0, .slice none 0 0] 76)).alloc (.cells #[.slice none 0 0, .slice none 0 0] 76)).heap.size = w.heap.size + 1 + 1 := by simp
  generalize ((w.alloc (.cells #[.slice none 0 0, .slice none 0 0] 76)).alloc (.cells #[.slice none 0 0, .slice none 0 0] 76)) = W at *
  rw [hWs] at hR
  obtain ⟨i0, hi, hz0, hz1, hz2⟩ := info_int_parts
  have HWS := Lib.hid hWs
  clear hWs
  go_loopw [2, 3, 4, 5] (fun u v ii _ wr => ∃ k : Nat, k ≤ 288 ∧ ii = .int .i64 k ∧ Rows2 W wr u v (Im.fixLit.take k) (Im.fixDist.take k)) (fun _ _ ii _ _ => 288 - (intOf ii).toNat)
  case atStart => exact ⟨0, by omega, rfl, hR⟩
  case round =>
    clear hR
    obtain ⟨k, hk, rfl, hR⟩ := hrel
    obtain ⟨a1, cap1, e1, hv1⟩ := hR.r1.slice
    obtain ⟨a2, cap2, e2, hv2⟩ := hR.r2.slice
    by_cases hlt : k < 288
    · have hfl := Im.fixLit_at k hlt
      have HT : Hid (Im.fixLit.take (k + 1) = Im.fixLit.take k ++ [Im.fixLit.getD k 0]) := Lib.hid (by
        have hl : k < Im.fixLit.length := by rw [Im.fixLit_length]; exact hlt
        rw [List.take_succ_eq_append_getElem hl, List.getD_eq_getElem?_getD, List.getElem?_eq_getElem hl]; rfl)
      have HL1 : Hid ((Im.fixLit.take k).length = k) := Lib.hid (by rw [List.length_take, Im.fixLit_length]; omega)
      have q0 : decide ((k : Int) < 288) = true := by simp; omega
      generalize Im.fixLit.getD k 0 = n at *
      generalize hl1 : Im.fixLit.take k = l1 at *
      clear hl1
      subst e1 e2
      have HR := Lib.hid hR
      have HR1 := Lib.hid hR.r1
      have HBZ : Hid (W.heap.size ≤ wr.heap.size) := Lib.hid hR.bel.size
      have HP := fun (x : Nat) (c : Int) v' w1 h1 h2 h3 => (HR.out.push1 (x := x) (u' := v') (w1 := w1) (o := .cells #[.int .i64 c] 3) h1 h2 h3)
      generalize hn2 : (Im.fixDist.take k).length = n2 at *
      replace hn2 := Lib.hid hn2
      generalize hn1 : l1.length = n1 at *
      replace hn1 := Lib.hid hn1
      have HL3 : Hid (l1.length ≤ 1000000) := Lib.hid (by have e1 := hn1.out; have e2 := HL1.out; omega)
      by_cases h32 : k < 32
      · have HD : Hid (Im.fixDist.take (k + 1) = Im.fixDist.take k ++ [5]) := Lib.hid (by
          have hl : k < Im.fixDist.length := by rw [Im.fixDist_length]; exact h32
          have e5 := Im.fixDist_at k h32
          rw [List.getD_eq_getElem?_getD, List.getElem?_eq_getElem hl] at e5
          rw [List.take_succ_eq_append_getElem hl, show Im.fixDist[k] = 5 from e5])
        have HL4 : Hid ((Im.fixDist.take k).length ≤ 1000000) := Lib.hid (by rw [List.length_take]; omega)
        have hn8 : n = 8 := by rw [hfl, if_pos (Or.inl (by omega))]
        subst hn8
        have q1 : decide ((144 : Int) ≤ (k : Int)) = false := by simp; omega
        have q2 : decide ((256 : Int) ≤ (k : Int)) = false := by simp; omega
        have q3 : decide ((k : Int) < 32) = true := by simp; omega
        clear hR hfl
        go_wp2_with (first | (at_builtin; refine wpList_int rfl (.tmp 28) (.tmp 30) rfl W.heap.size (.slice a1 n1 cap1) l1 rfl HR1.out 8 8 rfl rfl HL3.out HBZ.out ?_; intro v' w1 hr1 hg1 ho1; have hR1 := HP 8 8 v' w1 hr1 hg1 ho1; clear hr1 hg1 ho1 HP HR1) | (at_builtin; refine wpList_int rfl (.tmp 34) (.tmp 35) rfl W.heap.size (.slice a2 n2 cap2) (Im.fixDist.take k) rfl hR1.r2 5 5 rfl rfl HL4.out hR1.bel.size ?_; intro v2 w2 hr2 hg2 ho2; have hR2 := hR1.push2 (x := 5) (v' := v2) (w1 := w2) (o := .cells #[.int .i64 5] 3) hr2 hg2 ho2; clear hr2 hg2 ho2))
        go_roundw
        case rel => exact ⟨k + 1, by omega, by go_num, by rw [HT.out, HD.out]; exact hR2⟩
        case measure => simp [intOf]; omega
      have q9 : decide ((k : Int) < 32) = false := by simp; omega
      by_cases c1 : k < 144
      · have HD : Hid (Im.fixDist.take (k + 1) = Im.fixDist.take k) := Lib.hid (by
          rw [List.take_of_length_le (by rw [Im.fixDist_length]; omega), List.take_of_length_le (by rw [Im.fixDist_length]; omega)])
        have hn8 : n = 8 := by rw [hfl, if_pos (Or.inl c1)]
        subst hn8
        have q1 : decide ((144 : Int) ≤ (k : Int)) = false := by simp; omega
        have q2 : decide ((256 : Int) ≤ (k : Int)) = false := by simp; omega
        clear hR hfl
        go_wp2_with (first | (at_builtin; refine wpList_int rfl (.tmp 28) (.tmp 30) rfl W.heap.size (.slice a1 n1 cap1) l1 rfl HR1.out 8 8 rfl rfl HL3.out HBZ.out ?_; intro v' w1 hr1 hg1 ho1; have hR1 := HP 8 8 v' w1 hr1 hg1 ho1; clear hr1 hg1 ho1 HP HR1))
        go_roundw
        case rel => exact ⟨k + 1, by omega, by go_num, by rw [HT.out, HD.out]; exact hR1⟩
        case measure => simp [intOf]; omega
      by_cases c2 : k < 256
      · have HD : Hid (Im.fixDist.take (k + 1) = Im.fixDist.take k) := Lib.hid (by
          rw [List.take_of_length_le (by rw [Im.fixDist_length]; omega), List.take_of_length_le (by rw [Im.fixDist_length]; omega)])
        have hn8 : n = 9 := by rw [hfl, if_neg (by omega), if_pos c2]
        subst hn8
        have q1 : decide ((144 : Int) ≤ (k : Int)) = true := by simp; omega
        have q2 : decide ((k : Int) < 256) = true := by simp; omega
        have q3 : decide ((256 : Int) ≤ (k : Int)) = false := by simp; omega
        clear hR hfl
        go_wp2_with (first | (at_builtin; refine wpList_int rfl (.tmp 28) (.tmp 30) rfl W.heap.size (.slice a1 n1 cap1) l1 rfl HR1.out 9 9 rfl rfl HL3.out HBZ.out ?_; intro v' w1 hr1 hg1 ho1; have hR1 := HP 9 9 v' w1 hr1 hg1 ho1; clear hr1 hg1 ho1 HP HR1))
        go_roundw
        case rel => exact ⟨k + 1, by omega, by go_num, by rw [HT.out, HD.out]; exact hR1⟩
        case measure => simp [intOf]; omega
      by_cases c3 : k < 280
      · have HD : Hid (Im.fixDist.take (k + 1) = Im.fixDist.take k) := Lib.hid (by
          rw [List.take_of_length_le (by rw [Im.fixDist_length]; omega), List.take_of_length_le (by rw [Im.fixDist_length]; omega)])
        have hn8 : n = 7 := by rw [hfl, if_neg (by omega), if_neg c2]
        subst hn8
        have q1 : decide ((144 : Int) ≤ (k : Int)) = true := by simp; omega
        have q2 : decide ((k : Int) < 256) = false := by simp; omega
        have q3 : decide ((256 : Int) ≤ (k : Int)) = true := by simp; omega
        have q4 : decide ((k : Int) < 280) = true := by simp; omega
        clear hR hfl
        go_wp2_with (first | (at_builtin; refine wpList_int rfl (.tmp 28) (.tmp 30) rfl W.heap.size (.slice a1 n1 cap1) l1 rfl HR1.out 7 7 rfl rfl HL3.out HBZ.out ?_; intro v' w1 hr1 hg1 ho1; have hR1 := HP 7 7 v' w1 hr1 hg1 ho1; clear hr1 hg1 ho1 HP HR1))
        go_roundw
        case rel => exact ⟨k + 1, by omega, by go_num, by rw [HT.out, HD.out]; exact hR1⟩
        case measure => simp [intOf]; omega
      · have HD : Hid (Im.fixDist.take (k + 1) = Im.fixDist.take k) := Lib.hid (by
          rw [List.take_of_length_le (by rw [Im.fixDist_length]; omega), List.take_of_length_le (by rw [Im.fixDist_length]; omega)])
        have hn8 : n = 8 := by rw [hfl, if_pos (Or.inr (by omega))]
        subst hn8
        have q1 : decide ((144 : Int) ≤ (k : Int)) = true := by simp; omega
        have q2 : decide ((k : Int) < 256) = false := by simp; omega
        have q3 : decide ((256 : Int) ≤ (k : Int)) = true := by simp; omega
        have q4 : decide ((k : Int) < 280) = false := by simp; omega
        clear hR hfl
        go_wp2_with (first | (at_builtin; refine wpList_int rfl (.tmp 28) (.tmp 30) rfl W.heap.size (.slice a1 n1 cap1) l1 rfl HR1.out 8 8 rfl rfl HL3.out HBZ.out ?_; intro v' w1 hr1 hg1 ho1; have hR1 := HP 8 8 v' w1 hr1 hg1 ho1; clear hr1 hg1 ho1 HP HR1))
        go_roundw
        case rel => exact ⟨k + 1, by omega, by go_num, by rw [HT.out, HD.out]; exact hR1⟩
        case measure => simp [intOf]; omega
    · obtain rfl : k = 288 := by omega
      rw [List.take_of_length_le (by rw [Im.fixLit_length]; omega), List.take_of_length_le (by rw [Im.fixDist_length]; omega)] at hR
      rw [List.take_of_length_le (by rw [Im.fixLit_length]; omega)] at e1
      rw [List.take_of_length_le (by rw [Im.fixDist_length]; omega)] at e2
      have q0 : decide ((288 : Int) < 288) = false := by decide
      have q0' : decide (((288 : Nat) : Int) < 288) = false := by decide
      have s1 := Im.fixLit_short
      have s2 := Im.fixDist_short
      have z1 := Im.fixLit_err
      have z2 := Im.fixDist_err
      have y1 : Im.fixLit.length ≤ 288 := by rw [Im.fixLit_length]; omega
      have y2 : Im.fixDist.length ≤ 288 := by rw [Im.fixDist_length]; omega
      have sh1 := Im.err_share z1
      have sh2 := Im.err_share z2
      generalize hfl0 : Im.fixLit = fl at *
      generalize hfd0 : Im.fixDist = fd at *
      replace hfl0 := Lib.hid hfl0
      replace hfd0 := Lib.hid hfd0
      subst e1 e2
      have I1 : SInts wr a1 (ints fl) := hR.r1.sints
      have I2 : SInts wr a2 (ints fd) := hR.r2.sints
      have hx1r : wr.heap[w.heap.size]? = some (.cells #[.slice none 0 0, .slice none 0 0] 76 (0, 0)) := at_bel hx1 hR.bel
      have hx2r : wr.heap[w.heap.size + 1]? = some (.cells #[.slice none 0 0, .slice none 0 0] 76 (0, 0)) := at_bel hx2 hR.bel
      have hbw : Below w.heap.size w wr := belThen hW0 hR.bel
      have C1 := rcodes_valid a1 cap1 fl wr I1 s1 y1 z1 sh1
      have C2 := fun w1 (hb : Below wr.heap.size wr w1) => rcodes_valid a2 cap2 fd w1 (I2.later hb) s2 y2 z2 sh2
      have T1 := fun gm w1 (hb : Below wr.heap.size wr w1) hr => tree_go a1 cap1 gm fl w1 (I1.later hb) hr s1 y1 sh1
      have T2 := fun gm w1 (hb : Below wr.heap.size wr w1) hr => tree_go a2 cap2 gm fd w1 (I2.later hb) hr s2 y2 sh2
      replace z1 := Lib.hid z1
      replace z2 := Lib.hid z2
      clear hv1 hv2 hR hx1 hx2 hW0 hlt hk hi hz0 hz1 hz2
      go_wp2_with (first | (go_at_call 60; refine C1.mono ?_; rintro o w1 ⟨m1, _, rfl, hr1, hb1⟩; clear C1) | (go_at_call 60; refine (C2 w1 hb1).mono ?_; rintro o w2 ⟨m2, _, rfl, hr2, hb2⟩; clear C2; have hb12 := belThen hb1 hb2; have hr1' := hr1.of_block (hb2.block m1 hr1.lt)) | (go_at_call 61; refine (T1 m1 w2 hb12 hr1').mono ?_; rintro o w3 ⟨t1, N1, _, hN1, rfl, ht1, hb3⟩; clear T1; have hb13 := belThen hb12 hb3; have hr2' := hr2.of_block (hb3.block m2 hr2.lt); replace hN1 := Lib.hid hN1) | (go_at_call 61; refine (T2 m2 w3 hb13 hr2').mono ?_; rintro o w4 ⟨t2, N2, _, hN2, rfl, ht2, hb4⟩; clear T2; have hb14 := belThen hb13 hb4; replace hN2 := Lib.hid hN2; have hy1 := at_bel hx1r hb14; have hy2 := at_bel hx2r hb14; have k10 := cell_of_row w4 w.heap.size 0 _ _ _ hy1; have k11 := cell_of_row w4 w.heap.size 1 _ _ _ hy1; have k20 := cell_of_row w4 (w.heap.size + 1) 0 _ _ _ hy2; have k21 := cell_of_row w4 (w.heap.size + 1) 1 _ _ _ hy2; have f10 := frozen_of_row w4 w.heap.size 0 _ _ hy1; have f11 := frozen_of_row w4 w.heap.size 1 _ _ hy1; have f20 := frozen_of_row w4 (w.heap.size + 1) 0 _ _ hy2; have f21 := frozen_of_row w4 (w.heap.size + 1) 1 _ _ hy2; clear hy1 hy2))
      have hf5 := ((((Fr.refl (fun k => w.heap.size ≤ k ∧ k ≤ w.heap.size + 1) w4).setCell (p := ⟨w.heap.size, 0, none⟩) (Or.inl ⟨Nat.le_refl _, Nat.le_succ _⟩) (.slice a1 fl.length cap1)).setCell (p := ⟨w.heap.size, 1, none⟩) (Or.inl ⟨Nat.le_refl _, Nat.le_succ _⟩) (.slice (some ⟨t1, 0, none⟩) N1 N1)).setCell (p := ⟨w.heap.size + 1, 0, none⟩) (Or.inl ⟨Nat.le_succ _, Nat.le_refl _⟩) (.slice a2 fd.length cap2)).setCell (p := ⟨w.heap.size + 1, 1, none⟩) (Or.inl ⟨Nat.le_succ _, Nat.le_refl _⟩) (.slice (some ⟨t2, 0, none⟩) N2 N2)
      have hno : ∀ k c, w4.heap[k]? = some (.cells c 3 (0, 0)) → ¬ (w.heap.size ≤ k ∧ k ≤ w.heap.size + 1) := by
        rintro k c hk ⟨h1, h2⟩
        rcases (by omega : k = w.heap.size ∨ k = w.heap.size + 1) with rfl | rfl
        · exact row_apart (at_bel hx1r hb14) hk (by decide) rfl
        · exact row_apart (at_bel hx2r hb14) hk (by decide) rfl
      have g1 : TreeAt _ (.slice (some ⟨t1, 0, none⟩) N1 N1) fl := (show TreeAt w4 _ fl from ⟨t1, N1, hN1.out, rfl, ht1.of_block (hb4.block t1 ht1.lt)⟩).frS hf5 hno
      have g2 : TreeAt _ (.slice (some ⟨t2, 0, none⟩) N2 N2) fd := (show TreeAt w4 _ fd from ⟨t2, N2, hN2.out, rfl, ht2⟩).frS hf5 hno
      have hb5 : Below w.heap.size w _ := (((((belThen hbw hb14).setCell (p := ⟨w.heap.size, 0, none⟩) (Nat.le_refl _) (.slice a1 fl.length cap1)).setCell (p := ⟨w.heap.size, 1, none⟩) (Nat.le_refl _) (.slice (some ⟨t1, 0, none⟩) N1 N1)).setCell (p := ⟨w.heap.size + 1, 0, none⟩) (Nat.le_succ _) (.slice a2 fd.length cap2)).setCell (p := ⟨w.heap.size + 1, 1, none⟩) (Nat.le_succ _) (.slice (some ⟨t2, 0, none⟩) N2 N2))
      refine bodyPost_ret (v := .tuple #[.agg #[.slice a1 fl.length cap1, .slice (some ⟨t1, 0, none⟩) N1 N1], .agg #[.slice a2 fd.length cap2, .slice (some ⟨t2, 0, none⟩) N2 N2]]) (by simp [results, Try.results44, go_sem, k10, k11, k20, k21]) rfl ⟨_, _, _, _, rfl, ⟨_, _, _, rfl⟩, ⟨_, _, _, rfl⟩, ?_, ?_, hb5⟩
      · rw [hfl0.out]; exact g1
      · rw [hfd0.out]; exact g2
end Go.Proofs.Ytcjcmlnbchmnnaa
