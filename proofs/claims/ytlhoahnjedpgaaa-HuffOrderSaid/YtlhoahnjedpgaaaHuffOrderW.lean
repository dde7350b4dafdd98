/- farrierlaw08.HuffOrder: the walk. -/
import Derived.Test.YtlhoahnjedpgaaaFixed08
namespace Go.Proofs.Ytlhoahnjedpgaaa
open Go.RowKit

theorem err_share {ns : List Nat} (h : Hm.err ns = 0) : Hm.share ns ≤ 32768 := by
  unfold Hm.err at h
  by_cases h1 : 32768 < Hm.share ns
  · rw [if_pos h1] at h; omega
  · omega

set_option maxRecDepth 100000 in
set_option maxHeartbeats 2000000 in
theorem order_in (a0 : Option Addr) (cap0 : Nat) (ns : List Nat) (w : World) (hs : SInts w a0 (ints ns)) (hsh : Hm.Short ns) (hl : ns.length ≤ 288) (herr : Hm.err ns = 0) (hsr : Hm.share ns ≤ 32768) :
    Calls Try.prog 7 #[.slice a0 ns.length cap0] w fun e w' => e = .returned (.bool true) ∧ Below w.heap.size w w' := by
  go_enter Try.func7, Try.ntmps7
  go_wp2_with fail
  refine (codes_in a0 cap0 ns w hs hsh hl herr hsr).mono ?_
  rintro e w1 ⟨g, hg, rfl, hrow1, hb1⟩
  clear herr
  go_wp2_with fail
  refine (fixed08 _).mono ?_
  rintro e w2 ⟨rfl, hb2⟩
  have hrow := rowBelow hrow1 hb2
  have hb12 := belThen hb1 hb2
  clear hrow1 hb1 hb2
  go_wp2_with fail
  go_loopw [5, 6, 7] (fun i _ _ wr => ∃ k : Nat, k ≤ ns.length ∧ i = .int .i64 k ∧ wr.rowIs g 3 ns.length (cdf ns) ∧ Below w.heap.size w wr) (fun i _ _ _ => ns.length - (intOf i).toNat)
  case atStart => exact ⟨0, by omega, rfl, hrow, hb12⟩
  case round =>
    clear hrow hb12
    obtain ⟨i, hi, rfl, hrow, hbel⟩ := hrel
    by_cases hlt : i < ns.length
    · obtain ⟨b, o, hix, hc, hbl⟩ := hs.atN i hlt cap0
      have hcr := (hbel.cell (p := ⟨b, o, none⟩) hbl).trans hc
      have hcc : wr.cell? ⟨g, i, none⟩ = some (.int .i64 (Hm.code ns i : Nat)) := hrow.cell (i := i) hlt
      have hl15 := Hm.len_le hsh i
      have hcd := Hm.code_lt_max hsh hsr i
      have hcl := Hm.code_lt hsh hsr i
      have HLI : Hid (Hm.len ns i = Hm.len ns i) := rfl
      generalize hLI : Hm.len ns i = L at hcr hl15 hcl hc
      generalize hCI : Hm.code ns i = c at hcc hcd hcl
      have HL := Lib.hid hLI
      have HC := Lib.hid hCI
      have hc0 := hc
      clear hLI hCI HLI hc
      by_cases hz0 : L = 0
      · subst hz0
        have hc00 : c = 0 := by simpa using hcl
        subst hc00
        clear hcl
        go_wp2
        go_roundw
        case rel => exact ⟨i + 1, by omega, by go_num, hrow, hbel⟩
        case measure => simp [intOf]; omega
      · have hz1 : ((L : Int) == 0) = false := by simp; omega
        have a1 : (0 : Int) ≤ (i : Int) := by omega
        have a2 : (i : Int) < (ns.length : Int) := by omega
        have p1 : (c : Int) < 2 ^ L := by
          have : ((2 ^ L : Nat) : Int) = 2 ^ L := by simp
          rw [← this]; omega
        have p2 : (2 : Int) ^ L ≤ 32768 := by
          have h2 : 2 ^ L ≤ 2 ^ 15 := Nat.pow_le_pow_right (by omega) hl15
          have h3 : (2 : Nat) ^ 15 = 32768 := rfl
          have : ((2 ^ L : Nat) : Int) = 2 ^ L := by simp
          rw [← this]; omega
        have p3 : IntKind.i64.wrap ((2 : Int) ^ L) = 2 ^ L := IntWalk.i64_in _ (by omega)
        have p4 : decide ((2 : Int) ^ L ≤ (c : Int)) = false := by simp; omega
        have p5 : decide ((c : Int) < 0) = false := by simp
        have p6 : (0 : Int) ≤ (L : Int) := by omega
        clear hcl p1 p2
        go_wp2
        go_quiet (fail)
        have hrow2 : (wr.drewN nq).rowIs g 3 ns.length (cdf ns) := hrow
        have hbel2 := below_drewN hbel nq
        generalize wr.drewN nq = wo at *
        clear hrow hbel hcr hcc p3 p4 p5
        go_wp2
        go_loopw [6, 7] (fun k _ wr => ∃ j : Nat, j ≤ ns.length ∧ k = .int .i64 j ∧ wr.rowIs g 3 ns.length (cdf ns) ∧ Below w.heap.size w wr) (fun k _ _ => ns.length - (intOf k).toNat)
        case atStart => exact ⟨0, by omega, rfl, hrow2, hbel2⟩
        case round =>
          clear hrow2 hbel2
          obtain ⟨k, hk, rfl, hrow, hbel⟩ := hrel
          have hcr := (hbel.cell (p := ⟨b, o, none⟩) hbl).trans hc0
          have hcc : wr.cell? ⟨g, i, none⟩ = some (.int .i64 (c : Int)) := by rw [hrow.cell (i := i) hlt]; unfold cdf; rw [HC.out]
          by_cases hlt2 : k < ns.length
          · obtain ⟨b2, o2, hix2, hc2, hbl2⟩ := hs.atN k hlt2 cap0
            have hck := (hbel.cell (p := ⟨b2, o2, none⟩) hbl2).trans hc2
            have hcd : wr.cell? ⟨g, k, none⟩ = some (.int .i64 (Hm.code ns k : Int)) := hrow.cell (i := k) hlt2
            have hm15 := Hm.len_le hsh k
            have hdb := Hm.code_lt_max hsh hsr k
            generalize hLK : Hm.len ns k = M at hck hm15 hc2
            generalize hCK : Hm.code ns k = d at hcd hdb
            have HL2 := Lib.hid hLK
            have HC2 := Lib.hid hCK
            clear hLK hCK hc2
            have a3 : (0 : Int) ≤ (k : Int) := by omega
            have a4 : (k : Int) < (ns.length : Int) := by omega
            rcases (show M = 0 ∨ (0 < M ∧ M < L) ∨ (0 < M ∧ M = L ∧ ¬ i < k) ∨ (0 < M ∧ M = L ∧ i < k) ∨ (L < M) by omega) with hD | hD | hD | hD | hD
            · have s1 : IntKind.i64.wrap ((M : Int) - (L : Int)) = (M : Int) - (L : Int) := IntWalk.i64_in _ (by omega)
              have g1 : decide ((0 : Int) < (M : Int)) = false := by simp; omega
              have g2 : decide ((0 : Int) < (M : Int) - (L : Int)) = false := by simp; omega
              have g2' : decide ((L : Int) < (M : Int)) = false := by simp; omega
              clear hD HL HL2 HC HC2
              generalize (M : Int) = m at *
              generalize (L : Int) = l at *
              generalize (c : Int) = x at *
              generalize (d : Int) = y at *
              go_wp2
              go_quiet (fail)
              have hrow2 : (wr.drewN nq).rowIs g 3 ns.length (cdf ns) := hrow
              have hbel2 := below_drewN hbel nq
              have hcr2 : (wr.drewN nq).cell? ⟨b, o, none⟩ = some (.int .i64 l) := hcr
              have hck2 : (wr.drewN nq).cell? ⟨b2, o2, none⟩ = some (.int .i64 m) := hck
              have hcc2 : (wr.drewN nq).cell? ⟨g, i, none⟩ = some (.int .i64 x) := hcc
              have hcd2 : (wr.drewN nq).cell? ⟨g, k, none⟩ = some (.int .i64 y) := hcd
              generalize wr.drewN nq = wq at *
              clear hrow hbel hcr hck hcc hcd
              go_wp2
              go_quiet (fail)
              clear hix hix2
              go_wp2
              go_roundw
              case rel => exact ⟨k + 1, by omega, by go_num, hrow2, below_drewN hbel2 _⟩
              case measure => simp [intOf]; omega
            · have s1 : IntKind.i64.wrap ((M : Int) - (L : Int)) = (M : Int) - (L : Int) := IntWalk.i64_in _ (by omega)
              have g1 : decide ((0 : Int) < (M : Int)) = true := by simp; omega
              have g3 : ((M : Int) - (L : Int) == 0) = false := by simp; omega
              have g2 : decide ((0 : Int) < (M : Int) - (L : Int)) = false := by simp; omega
              have g2' : decide ((L : Int) < (M : Int)) = false := by simp; omega
              clear hD HL HL2 HC HC2
              generalize (M : Int) = m at *
              generalize (L : Int) = l at *
              generalize (c : Int) = x at *
              generalize (d : Int) = y at *
              go_wp2
              go_quiet (fail)
              have hrow2 : (wr.drewN nq).rowIs g 3 ns.length (cdf ns) := hrow
              have hbel2 := below_drewN hbel nq
              have hcr2 : (wr.drewN nq).cell? ⟨b, o, none⟩ = some (.int .i64 l) := hcr
              have hck2 : (wr.drewN nq).cell? ⟨b2, o2, none⟩ = some (.int .i64 m) := hck
              have hcc2 : (wr.drewN nq).cell? ⟨g, i, none⟩ = some (.int .i64 x) := hcc
              have hcd2 : (wr.drewN nq).cell? ⟨g, k, none⟩ = some (.int .i64 y) := hcd
              generalize wr.drewN nq = wq at *
              clear hrow hbel hcr hck hcc hcd
              go_wp2
              go_quiet (fail)
              clear hix hix2
              go_wp2
              go_roundw
              case rel => exact ⟨k + 1, by omega, by go_num, hrow2, below_drewN hbel2 _⟩
              case measure => simp [intOf]; omega
            · have s1 : IntKind.i64.wrap ((M : Int) - (L : Int)) = (M : Int) - (L : Int) := IntWalk.i64_in _ (by omega)
              have g1 : decide ((0 : Int) < (M : Int)) = true := by simp; omega
              have g3 : ((M : Int) - (L : Int) == 0) = true := by simp; omega
              have g4 : decide ((i : Int) < (k : Int)) = false := by simp; omega
              have g4' : decide (i < k) = false := by simp; omega
              have g2 : decide ((0 : Int) < (M : Int) - (L : Int)) = false := by simp; omega
              have g2' : decide ((L : Int) < (M : Int)) = false := by simp; omega
              clear hD HL HL2 HC HC2
              generalize (M : Int) = m at *
              generalize (L : Int) = l at *
              generalize (c : Int) = x at *
              generalize (d : Int) = y at *
              go_wp2
              go_quiet (fail)
              have hrow2 : (wr.drewN nq).rowIs g 3 ns.length (cdf ns) := hrow
              have hbel2 := below_drewN hbel nq
              have hcr2 : (wr.drewN nq).cell? ⟨b, o, none⟩ = some (.int .i64 l) := hcr
              have hck2 : (wr.drewN nq).cell? ⟨b2, o2, none⟩ = some (.int .i64 m) := hck
              have hcc2 : (wr.drewN nq).cell? ⟨g, i, none⟩ = some (.int .i64 x) := hcc
              have hcd2 : (wr.drewN nq).cell? ⟨g, k, none⟩ = some (.int .i64 y) := hcd
              generalize wr.drewN nq = wq at *
              clear hrow hbel hcr hck hcc hcd
              go_wp2
              go_quiet (fail)
              clear hix hix2
              go_wp2
              go_roundw
              case rel => exact ⟨k + 1, by omega, by go_num, hrow2, below_drewN hbel2 _⟩
              case measure => simp [intOf]; omega
            · have s1 : IntKind.i64.wrap ((M : Int) - (L : Int)) = (M : Int) - (L : Int) := IntWalk.i64_in _ (by omega)
              have g1 : decide ((0 : Int) < (M : Int)) = true := by simp; omega
              have g3 : ((M : Int) - (L : Int) == 0) = true := by simp; omega
              have g4 : decide ((i : Int) < (k : Int)) = true := by simp; omega
              have g4' : decide (i < k) = true := by simp; omega
              have hq := Hm.code_rise (ns := ns) (i := i) (k := k) (by rw [HL2.out]; omega) hD.2.2 (by rw [HL.out, HL2.out]; omega)
              rw [HC.out, HC2.out] at hq
              have g5 : decide ((d : Int) ≤ (c : Int)) = false := by simp; omega
              have g2 : decide ((0 : Int) < (M : Int) - (L : Int)) = false := by simp; omega
              have g2' : decide ((L : Int) < (M : Int)) = false := by simp; omega
              clear hq
              clear hD HL HL2 HC HC2
              generalize (M : Int) = m at *
              generalize (L : Int) = l at *
              generalize (c : Int) = x at *
              generalize (d : Int) = y at *
              go_wp2
              go_quiet (fail)
              have hrow2 : (wr.drewN nq).rowIs g 3 ns.length (cdf ns) := hrow
              have hbel2 := below_drewN hbel nq
              have hcr2 : (wr.drewN nq).cell? ⟨b, o, none⟩ = some (.int .i64 l) := hcr
              have hck2 : (wr.drewN nq).cell? ⟨b2, o2, none⟩ = some (.int .i64 m) := hck
              have hcc2 : (wr.drewN nq).cell? ⟨g, i, none⟩ = some (.int .i64 x) := hcc
              have hcd2 : (wr.drewN nq).cell? ⟨g, k, none⟩ = some (.int .i64 y) := hcd
              generalize wr.drewN nq = wq at *
              clear hrow hbel hcr hck hcc hcd
              go_wp2
              go_quiet (fail)
              clear hix hix2
              go_wp2
              go_roundw
              case rel => exact ⟨k + 1, by omega, by go_num, hrow2, below_drewN hbel2 _⟩
              case measure => simp [intOf]; omega
            · have s1 : IntKind.i64.wrap ((M : Int) - (L : Int)) = (M : Int) - (L : Int) := IntWalk.i64_in _ (by omega)
              have g1 : decide ((0 : Int) < (M : Int)) = true := by simp; omega
              have g3 : ((M : Int) - (L : Int) == 0) = false := by simp; omega
              have g2 : decide ((0 : Int) < (M : Int) - (L : Int)) = true := by simp; omega
              have g2' : decide ((L : Int) < (M : Int)) = true := by simp; omega
              have g6 : ((M : Int) - (L : Int)).toNat = M - L := by omega
              have g7 : ¬ (M : Int) - (L : Int) < 0 := by omega
              have hq := Hm.code_cut (ns := ns) (i := i) (k := k) (by rw [HL.out]; omega) (by rw [HL.out, HL2.out]; omega)
              rw [HC.out, HC2.out, HL.out, HL2.out] at hq
              have g5 : decide ((d : Int) / 2 ^ (M - L) ≤ (c : Int)) = false := by
                have e : (d : Int) / 2 ^ (M - L) = ((d / 2 ^ (M - L) : Nat) : Int) := by simp
                rw [e]; simp; omega
              clear hq
              clear hD HL HL2 HC HC2
              generalize (M : Int) = m at *
              generalize (L : Int) = l at *
              generalize (c : Int) = x at *
              generalize (d : Int) = y at *
              go_wp2
              go_quiet (fail)
              have hrow2 : (wr.drewN nq).rowIs g 3 ns.length (cdf ns) := hrow
              have hbel2 := below_drewN hbel nq
              have hcr2 : (wr.drewN nq).cell? ⟨b, o, none⟩ = some (.int .i64 l) := hcr
              have hck2 : (wr.drewN nq).cell? ⟨b2, o2, none⟩ = some (.int .i64 m) := hck
              have hcc2 : (wr.drewN nq).cell? ⟨g, i, none⟩ = some (.int .i64 x) := hcc
              have hcd2 : (wr.drewN nq).cell? ⟨g, k, none⟩ = some (.int .i64 y) := hcd
              generalize wr.drewN nq = wq at *
              clear hrow hbel hcr hck hcc hcd
              go_wp2
              go_quiet (fail)
              clear hix hix2
              go_wp2
              go_roundw
              case rel => exact ⟨k + 1, by omega, by go_num, hrow2, below_drewN hbel2 _⟩
              case measure => simp [intOf]; omega
          · go_wp2
            go_roundw
            case rel => exact ⟨i + 1, by omega, by go_num, hrow, hbel⟩
            case measure => simp [intOf]; omega
    · go_wp2
      go_ret
      exact ⟨rfl, hbel⟩
theorem walk_HuffOrder (a0 : Option Addr) (cap0 : Nat) (ls : List Int) (w : World) (hs : SInts w a0 ls) (hm : ls.length ≤ maxLen) (_hw : ∀ n ∈ ls, (Lit.int .i64 n).wf = true) :
    Calls Try.prog 7 #[.slice a0 ls.length cap0] w fun e w' => e = .returned (.bool true) ∧ Below w.heap.size w w' := by
  rcases bad_or ls with hbad | ⟨ns, rfl, hsh, hl⟩
  · go_enter Try.func7, Try.ntmps7
    go_wp2_with fail
    refine (codes_out a0 cap0 ls w hs hm hbad).mono ?_
    rintro e w1 ⟨rfl, hb1⟩
    go_wp2_with fail
    refine (fixed08 _).mono ?_
    rintro e w2 ⟨rfl, hb2⟩
    go_wp2_with fail
    refine (fixed08 _).mono ?_
    rintro e w3 ⟨rfl, hb3⟩
    go_wp2_with fail
    go_ret
    exact ⟨rfl, belThen (belThen hb1 hb2) hb3⟩
  · rw [ints_length]
    by_cases herr : Hm.err ns = 0
    · exact order_in a0 cap0 ns w hs hsh hl herr (err_share herr)
    · have herr' : (Hm.err ns != 0) = true := by rw [bne_iff_ne]; exact herr
      go_enter Try.func7, Try.ntmps7
      go_wp2_with fail
      refine (codes_err a0 cap0 ns w hs hsh hl herr).mono ?_
      rintro e w1 ⟨rfl, hb1⟩
      generalize Hm.err ns = er at *
      clear herr
      go_wp2_with fail
      refine (fixed08 _).mono ?_
      rintro e w2 ⟨rfl, hb2⟩
      go_wp2_with fail
      refine (fixed08 _).mono ?_
      rintro e w3 ⟨rfl, hb3⟩
      go_wp2_with fail
      go_ret
      exact ⟨rfl, belThen (belThen hb1 hb2) hb3⟩
end Go.Proofs.Ytlhoahnjedpgaaa
