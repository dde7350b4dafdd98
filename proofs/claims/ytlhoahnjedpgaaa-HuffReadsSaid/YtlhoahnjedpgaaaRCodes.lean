/- the reference's Codes: the codes of lengths, or why they may not be: its contract. -/
import Derived.Test.YtlhoahnjedpgaaaCodes
import Derived.Test.YtlhoahnjedpgaaaShare
import Derived.Test.YtlhoahnjedpgaaaHmRef
namespace Go.Proofs.Ytlhoahnjedpgaaa
open Go.RowKit

/-- codes found so far: those of lengths below l, and those of length l ahead of symbol i -/
def rcTo (ns : List Nat) (l i j : Nat) : Value := .int .i64 ((if Hm.len ns j ≠ 0 ∧ (Hm.len ns j < l ∨ (Hm.len ns j = l ∧ j < i)) then Hm.code ns j else 0 : Nat) : Int)

set_option maxRecDepth 100000 in
set_option maxHeartbeats 2000000 in
theorem rcodes_valid (ao : Option Addr) (cap : Nat) (ns : List Nat) (w : World) (hs : SInts w ao (ints ns)) (hsh : Hm.Short ns) (hl : ns.length ≤ 288) (herr : Hm.err ns = 0) (hsr : Hm.share ns ≤ 32768) :
    Calls Try.prog 8 #[.slice ao ns.length cap] w (CodesIn ns w) := by
  have hnf : ¬ (Hm.share ns < 32768 ∧ 0 < Hm.share ns ∧ (ns.count 1 ≠ 1 ∨ 16384 < Hm.share ns)) := by
    unfold Hm.err at herr
    rw [if_neg (by omega)] at herr
    intro h; rw [if_pos h] at herr; omega
  have HNF : Hid (Hm.share ns < 32768 → 0 < Hm.mny ns → ¬ 1 < Hm.mny ns ∧ Hm.lst 0 ns = 1) := fun h1 h2 => by
    have h3 := (Hm.mny_share ns hsh).1 h2
    have h4 := Hm.few_iff ns hsh h3
    have h5 : ¬ (1 < Hm.mny ns ∨ Hm.lst 0 ns ≠ 1) := fun h => hnf ⟨h1, h3, h4.1 h⟩
    omega
  clear hnf herr
  go_enter Try.func8, Try.ntmps8
  go_wp2_with fail
  refine (share_in ao cap ns w hs hsh hl).mono ?_
  rintro e w1 ⟨rfl, rfl⟩
  have d0 : decide (((Hm.share ns : Nat) : Int) < 0) = false := by simp
  have d1 : decide ((32768 : Int) < ((Hm.share ns : Nat) : Int)) = false := by simp; omega
  generalize hss : ((Hm.share ns : Nat) : Int) = sh at *
  have HSS := Lib.hid hss
  clear hss
  go_wp2_with fail
  clear d0 d1
  go_loop [5, 6, 7] (fun m la i => ∃ k : Nat, k ≤ ns.length ∧ i = .int .i64 k ∧ m = .int .i64 (Hm.mny (ns.take k) : Nat) ∧ la = .int .i64 (Hm.lst 0 (ns.take k) : Nat)) (fun _ _ i => ns.length - (intOf i).toNat)
  case atStart => exact ⟨0, by omega, rfl, rfl, rfl⟩
  case round =>
    obtain ⟨k, hk, rfl, rfl, rfl⟩ := hrel
    by_cases hlt : k < ns.length
    · obtain ⟨b, o, hix, hc, hbl⟩ := hs.atN k hlt cap
      have hmb := Hm.mny_le (ns.take k)
      rw [List.length_take] at hmb
      have HS1 : Hid (Hm.mny (ns.take (k + 1)) = Hm.mny (ns.take k) + if Hm.len ns k = 0 then 0 else 1) := by
        show _ = _; rw [List.take_succ_eq_append_getElem hlt, Hm.mny_snoc, Hm.len_get hlt]
      have HS2 : Hid (Hm.lst 0 (ns.take (k + 1)) = if Hm.len ns k = 0 then Hm.lst 0 (ns.take k) else Hm.len ns k) := by
        show _ = _; rw [List.take_succ_eq_append_getElem hlt, Hm.lst_snoc, Hm.len_get hlt]
      generalize Hm.len ns k = l at *
      generalize Hm.mny (ns.take k) = m at *
      generalize Hm.lst 0 (ns.take k) = la at *
      by_cases hz : l = 0
      · subst hz
        go_wp2
        go_round
        case rel => exact ⟨k + 1, by omega, by go_num, val_int (by rw [HS1.out]; simp), val_int (by rw [HS2.out]; simp)⟩
        case measure => simp [intOf]; omega
      · go_wp2
        go_round
        case rel => exact ⟨k + 1, by omega, by go_num, val_int (by rw [HS1.out, if_neg hz]; simp), val_int (by rw [HS2.out, if_neg hz])⟩
        case measure => simp [intOf]; omega
    · obtain rfl : k = ns.length := by omega
      rw [List.take_length]
      have hmk := run_make_row' (P := Try.prog) 22 3 (.int .i64 0) 8 Try.underlying22 infoInt rfl .i64 .i64 ns.length (by omega) (by omega)
      have H2 : Hid (¬ sh < 32768 ∨ ¬ 0 < Hm.mny ns ∨ (0 < Hm.mny ns ∧ ¬ 1 < Hm.mny ns ∧ Hm.lst 0 ns = 1)) := by
        have h1 := HNF.out
        have h2 := HSS.out
        show _ ∨ _
        by_cases a : Hm.share ns < 32768
        · by_cases b : 0 < Hm.mny ns
          · exact .inr (.inr ⟨b, h1 a b⟩)
          · exact .inr (.inl b)
        · left; omega
      generalize Hm.mny ns = m at *
      generalize Hm.lst 0 ns = la at *
      clear HNF hlt hk
      generalize hmi : ((m : Nat) : Int) = mi at *
      generalize hli : ((la : Nat) : Int) = li at *
      rcases H2.out with h2 | h2 | ⟨h2, h3, h4⟩
      case' inl =>
        have e1 : decide (sh < 32768) = false := by simp; omega
        clear h2 hmi hli H2
        go_wp2
      case' inr.inl =>
        have e2 : decide ((0 : Int) < mi) = false := by simp; omega
        by_cases h1 : sh < 32768
      case' inr.inr =>
        have e2 : decide ((0 : Int) < mi) = true := by simp; omega
        have e3 : decide ((1 : Int) < mi) = false := by simp; omega
        have e4 : (li != 1) = false := by rw [← hli, h4]; rfl
        by_cases h1 : sh < 32768
      all_goals try (have e1 : decide (sh < 32768) = true := by simpa using h1)
      all_goals try (have e1 : decide (sh < 32768) = false := by simpa using h1)
      all_goals try clear h1
      all_goals try clear h2 hmi hli H2
      all_goals try clear h3 h4
      all_goals try go_wp2
      all_goals
        clear hmk
        have hro := World.rowIs_made w (.int .i64 0) ns.length 3
        have hb3 := (Below.refl w.heap.size w).alloc (Nat.le_refl _) (.cells (madeCells #[.int .i64 0] ns.length) 3)
        go_loopw [9, 10, 11, 12, 13] (fun cd lg fi li _ wr => ∃ l c g : Nat, ∃ f : Bool, 1 ≤ l ∧ l ≤ 16 ∧ li = .int .i64 l ∧ cd = .int .i64 c ∧ lg = .int .i64 g ∧ fi = .bool f ∧ Hm.RC ns l 0 c g f ∧ wr.rowIs w.heap.size 3 ns.length (rcTo ns l 0) ∧ Below w.heap.size w wr) (fun _ _ _ li _ _ => 16 - (intOf li).toNat)
        case atStart =>
          refine ⟨1, 0, 0, true, by omega, by omega, rfl, rfl, rfl, rfl, Hm.RC_start ns, hro.congr fun j _ => ?_, hb3⟩
          unfold rcTo; rw [if_neg (by omega)]; rfl
        case round =>
          clear hro hb3
          obtain ⟨l, c, g, f, h1, h16, rfl, rfl, rfl, rfl, hrc, hrow, hbel⟩ := hrel
          by_cases hlt : l ≤ 15
          · have HRC := Lib.hid hrc
            clear hrc
            obtain ⟨wo, rfl⟩ : ∃ wo : World, wo = wr := ⟨_, rfl⟩
            go_wp2
            go_loopw [9, 10, 11, 13] (fun cd lg fi ii wr => ∃ i c g : Nat, ∃ f : Bool, i ≤ ns.length ∧ ii = .int .i64 i ∧ cd = .int .i64 c ∧ lg = .int .i64 g ∧ fi = .bool f ∧ Hm.RC ns l i c g f ∧ wr.rowIs w.heap.size 3 ns.length (rcTo ns l i) ∧ Below w.heap.size w wr) (fun _ _ _ ii _ => ns.length - (intOf ii).toNat)
            case atStart => exact ⟨0, c, g, f, by omega, rfl, rfl, rfl, rfl, HRC.out, hrow, hbel⟩
            case round =>
              clear hrow hbel HRC
              obtain ⟨i, c, g, f, hi, rfl, rfl, rfl, rfl, hrc, hrow, hbel⟩ := hrel
              by_cases hlt2 : i < ns.length
              · obtain ⟨b, o, hix, hc, hbl⟩ := hs.atN i hlt2 cap
                have hcr := (hbel.cell (p := ⟨b, o, none⟩) hbl).trans hc
                clear hc
                by_cases hhit : Hm.len ns i = l
                · have hnc := Hm.nxt_code h1 hhit
                  have hnb := Hm.nxt_le ns hsr l i h1 hlt
                  have HH := Lib.hid (Hm.RC_hit hlt2 h1 hhit)
                  have HLE := Lib.hid hhit
                  rw [hhit] at hcr
                  have ci : ∃ v, wr.cell? ⟨w.heap.size, i, none⟩ = some v := ⟨_, hrow.cell (i := i) hlt2⟩
                  obtain ⟨v, ci⟩ := ci
                  have fi := hrow.frozen i
                  have HEND : Hid (∀ (x : Int), x = (Hm.code ns i : Int) → ((wr.setCell ⟨w.heap.size, i, none⟩ (.int .i64 x)).rowIs w.heap.size 3 ns.length (rcTo ns l (i + 1)))) := fun x hx => by
                    refine (hrow.set i _).congr fun j _ => ?_
                    show (if j = i then _ else _) = _
                    unfold rcTo
                    by_cases hj : j = i
                    · subst hj; rw [if_pos rfl, hx, if_pos ⟨by omega, .inr ⟨hhit, by omega⟩⟩]
                    · rw [if_neg hj]
                      congr 3
                      apply propext
                      constructor <;> rintro ⟨a, b | ⟨b1, b2⟩⟩
                      · exact ⟨a, .inl b⟩
                      · exact ⟨a, .inr ⟨b1, by omega⟩⟩
                      · exact ⟨a, .inl b⟩
                      · exact ⟨a, .inr ⟨b1, by omega⟩⟩
                  clear hhit
                  rcases hrc with ⟨rfl, rfl, rfl, hn0⟩ | ⟨rfl, g1, g2, hn0⟩
                  · have HV : Hid ((0 : Int) = (Hm.code ns i : Int)) := by show _ = _; rw [hnc, hn0]; rfl
                    clear hn0 hnc hnb
                    go_wp2
                    go_roundw
                    case rel => exact ⟨i + 1, Hm.code ns i, l, false, by omega, by go_num, by rw [← HV.out], rfl, rfl, HH.out, HEND.out _ HV.out, hbel.setCell (Nat.le_refl _) _⟩
                    case measure => simp [intOf]; omega
                  · have HV : Hid (((c : Int) + 1) * 2 ^ (l - g) = (Hm.code ns i : Int)) := by
                      show _ = _; rw [hnc, ← hn0]; simp
                    have hpw : (c + 1) * 2 ^ (l - g) ≤ 32768 := by omega
                    have hp0 := Nat.two_pow_pos (l - g)
                    have hcb : c + 1 ≤ 32768 := Nat.le_trans (Nat.le_mul_of_pos_right _ hp0) hpw
                    have hx0 : ((c : Int) + 1) * 2 ^ (l - g) ≤ 32768 := by
                      have : ((c : Int) + 1) * 2 ^ (l - g) = (((c + 1) * 2 ^ (l - g) : Nat) : Int) := by simp
                      rw [this]; omega
                    have hx1 : (0 : Int) ≤ ((c : Int) + 1) * 2 ^ (l - g) := by
                      have : ((c : Int) + 1) * 2 ^ (l - g) = (((c + 1) * 2 ^ (l - g) : Nat) : Int) := by simp
                      rw [this]; omega
                    have s3 : ((l : Int) - (g : Int)).toNat = l - g := by omega
                    clear hn0 hnc hnb hpw hp0
                    go_wp2
                    go_roundw
                    case rel => exact ⟨i + 1, Hm.code ns i, l, false, by omega, by go_num, by rw [← HV.out], rfl, rfl, HH.out, HEND.out _ HV.out, hbel.setCell (Nat.le_refl _) _⟩
                    case measure => simp [intOf]; omega
                · have hne : (((Hm.len ns i : Nat) : Int) != (l : Int)) = true := by rw [bne_iff_ne]; omega
                  have HH := Lib.hid (Hm.RC_skip hrc hlt2 hhit)
                  have HQ := Lib.hid (hrow.congr (g := rcTo ns l (i + 1)) fun j _ => by
                    unfold rcTo
                    congr 3
                    apply propext
                    constructor <;> rintro ⟨a, b | ⟨b1, b2⟩⟩
                    · exact ⟨a, .inl b⟩
                    · exact ⟨a, .inr ⟨b1, by omega⟩⟩
                    · exact ⟨a, .inl b⟩
                    · refine ⟨a, .inr ⟨b1, ?_⟩⟩
                      rcases Nat.lt_or_ge j i with h | h
                      · exact h
                      · exfalso; apply hhit; rw [← b1]; congr 1; omega)
                  clear hrc hhit hrow
                  generalize ((Hm.len ns i : Nat) : Int) = ln at *
                  go_wp2
                  go_roundw
                  case rel => exact ⟨i + 1, c, g, f, by omega, by go_num, rfl, rfl, rfl, HH.out, HQ.out, hbel⟩
                  case measure => simp [intOf]; omega
              · obtain rfl : i = ns.length := by omega
                have HH := Lib.hid (Hm.RC_next hrc h1)
                have HQ := Lib.hid (hrow.congr (g := rcTo ns (l + 1) 0) fun j hj => by
                  unfold rcTo
                  congr 3
                  apply propext
                  constructor <;> rintro ⟨a, b | ⟨b1, b2⟩⟩
                  · exact ⟨a, .inl (by omega)⟩
                  · exact ⟨a, .inl (by omega)⟩
                  · refine ⟨a, ?_⟩
                    rcases Nat.lt_or_ge (Hm.len ns j) l with h | h
                    · exact .inl h
                    · exact .inr ⟨by omega, hj⟩
                  · omega)
                clear hrc hrow
                go_wp2
                go_roundw
                case rel => exact ⟨l + 1, c, g, f, by omega, by omega, by go_num, rfl, rfl, rfl, HH.out, HQ.out, hbel⟩
                case measure => simp [intOf]; omega
          · obtain rfl : l = 16 := by omega
            clear hrc
            go_wp2
            go_ret2
            refine ⟨w.heap.size, Nat.le_refl _, rfl, hrow.congr fun j _ => ?_, hbel⟩
            unfold rcTo cdf
            have h15 := Hm.len_le hsh j
            by_cases hz : Hm.len ns j = 0
            · rw [if_neg (fun h => h.1 hz)]; unfold Hm.code; rw [if_pos hz]
            · rw [if_pos ⟨hz, .inl (by omega)⟩]
end Go.Proofs.Ytlhoahnjedpgaaa
