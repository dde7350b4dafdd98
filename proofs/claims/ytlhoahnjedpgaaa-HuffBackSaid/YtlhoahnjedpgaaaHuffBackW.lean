/- farrierlaw08.HuffBack: the walk. -/
import Derived.Test.YtlhoahnjedpgaaaFixed08
import Derived.Test.YtlhoahnjedpgaaaBits8
namespace Go.Proofs.Ytlhoahnjedpgaaa
open Go.RowKit

theorem err_shareB {ns : List Nat} (h : Hm.err ns = 0) : Hm.share ns ≤ 32768 := by
  unfold Hm.err at h
  by_cases h1 : 32768 < Hm.share ns
  · rw [if_pos h1] at h; omega
  · omega
theorem ht_drew {w : World} {T : Nat} {ns : List Nat} (h : TableAt w T ns) (n : Nat) : TableAt (w.drewN n) T ns := h.below (below_drewN (Below.refl _ _) n)
theorem read_back {ns : List Nat} (hs : Hm.Short ns) (hsr : Hm.share ns ≤ 32768) (i : Nat) (hi : 1 ≤ Hm.len ns i) (more : ByteArray) :
    Hm.read ns (ByteArray.mk #[Hm.lo (Hm.code ns i) (Hm.len ns i) (Hm.len ns i), Hm.hi (Hm.code ns i) (Hm.len ns i) (Hm.len ns i)] ++ more).data.toList 0 = ((i : Int), (Hm.len ns i : Int), 0) := by
  have h15 := Hm.len_le hs i
  have e : (ByteArray.mk #[Hm.lo (Hm.code ns i) (Hm.len ns i) (Hm.len ns i), Hm.hi (Hm.code ns i) (Hm.len ns i) (Hm.len ns i)] ++ more).data.toList = [Hm.lo (Hm.code ns i) (Hm.len ns i) (Hm.len ns i), Hm.hi (Hm.code ns i) (Hm.len ns i) (Hm.len ns i)] ++ more.data.toList := by simp
  rw [e, Hm.read_follow hi hs (by rw [Hm.pv_bits _ _ _ (Hm.code_lt hs hsr i) h15 _ (Nat.le_refl _)]; simp) (fun j hj => by simp; omega), Nat.zero_add]

set_option maxRecDepth 100000 in
set_option maxHeartbeats 4000000 in
theorem back_in (a0 : Option Addr) (cap0 : Nat) (ns : List Nat) (more : ByteArray) (w : World) (hs : SInts w a0 (ints ns)) (hsh : Hm.Short ns) (hl : ns.length ≤ 288) (herr : Hm.err ns = 0) (hsr : Hm.share ns ≤ 32768) (hz : more.size ≤ 140737488351232) :
    Calls Try.prog 5 #[.slice a0 ns.length cap0, .string more] w fun e w' => e = .returned (.bool true) ∧ Below w.heap.size w w' := by
  go_enter Try.func5, Try.ntmps5
  go_wp2_with fail
  refine (codes_in a0 cap0 ns w hs hsh hl herr hsr).mono ?_
  rintro e w1 ⟨g, hg, rfl, hrow1, hb1⟩
  go_wp2_with fail
  refine (new_in a0 cap0 ns w1 (hs.later hb1) hsh hl herr hsr).mono ?_
  rintro e w2 ⟨T, hT, rfl, ht2, hb2⟩
  clear herr
  go_wp2_with fail
  refine (fixed08 _).mono ?_
  rintro e w3 ⟨rfl, hb3⟩
  have hrow := rowBelow hrow1 (belThen hb2 hb3)
  have ht := ht2.below hb3
  have hb := belThen (belThen hb1 hb2) hb3
  clear hrow1 hb1 hb2 hb3 ht2
  go_wp2_with fail
  go_loopw [9, 10, 11, 12, 13, 14, 15] (fun i _ _ _ _ _ _ wr => ∃ k : Nat, k ≤ ns.length ∧ i = .int .i64 k ∧ wr.rowIs g 3 ns.length (cdf ns) ∧ TableAt wr T ns ∧ Below w.heap.size w wr) (fun i _ _ _ _ _ _ _ => ns.length - (intOf i).toNat)
  case atStart => exact ⟨0, by omega, rfl, hrow, ht, hb⟩
  case round =>
    clear hrow hb ht
    obtain ⟨i, hi, rfl, hrow, ht, hbel⟩ := hrel
    by_cases hlt : i < ns.length
    · obtain ⟨b, o, hix, hc, hbl⟩ := hs.atN i hlt cap0
      have hcr := (hbel.cell (p := ⟨b, o, none⟩) hbl).trans hc
      have hcc : wr.cell? ⟨g, i, none⟩ = some (.int .i64 (Hm.code ns i : Nat)) := hrow.cell (i := i) hlt
      have hl15 := Hm.len_le hsh i
      have hcd := Hm.code_lt_max hsh hsr i
      have HRB := Lib.hid (fun h => read_back hsh hsr i h more)
      generalize hLI : Hm.len ns i = L at hcr hl15 hc HRB
      generalize hCI : Hm.code ns i = c at hcc hcd HRB
      have HL := Lib.hid hLI
      have HC := Lib.hid hCI
      have hc0 := hc
      clear hLI hCI hc
      by_cases hz0 : L = 0
      · subst hz0
        go_wp2
        go_roundw
        case rel => exact ⟨i + 1, by omega, by go_num, hrow, ht, hbel⟩
        case measure => simp [intOf]; omega
      · have hz1 : ((L : Int) == 0) = false := by simp; omega
        have HR := Lib.hid (HRB.out (by omega))
        clear HRB
        go_wp2_with fail
        refine (bits_any c L _ hcd hl15).mono ?_
        rintro e w4 ⟨rfl, hb4⟩
        have hszb : (ByteArray.mk #[Hm.lo c L L, Hm.hi c L L]).size = 2 := rfl
        generalize ByteArray.mk #[Hm.lo c L L, Hm.hi c L L] = bs at *
        have hz3 : (bs ++ more).size ≤ 281474976710656 := by rw [ByteArray.size_append, hszb]; omega
        go_wp2_with fail
        refine (read_in T ns (bs ++ more) 0 _ (ht.below hb4) hsh hz3 (by omega)).mono ?_
        rintro e w5 ⟨rfl, hb5⟩
        rw [HR.out]
        unfold tri
        have hrow5 := rowBelow hrow (belThen hb4 hb5)
        have ht5 := ht.below (belThen hb4 hb5)
        have hbel5 := belThen hbel (belThen hb4 hb5)
        clear hrow hbel hcr hcc ht hb4 hb5 hszb hz3
        go_wp2_with fail
        go_loopw [14, 15] (fun k _ wr => ∃ j : Nat, j ≤ i ∧ k = .int .i64 j ∧ wr.rowIs g 3 ns.length (cdf ns) ∧ TableAt wr T ns ∧ Below w.heap.size w wr) (fun k _ _ => i - (intOf k).toNat)
        case atStart => exact ⟨0, by omega, rfl, hrow5, ht5, hbel5⟩
        case round =>
          clear hrow5 hbel5 ht5 HR
          obtain ⟨k, hk, rfl, hrow, ht, hbel⟩ := hrel
          have hcr := (hbel.cell (p := ⟨b, o, none⟩) hbl).trans hc0
          have hcc : wr.cell? ⟨g, i, none⟩ = some (.int .i64 (c : Int)) := by rw [hrow.cell (i := i) hlt]; unfold cdf; rw [HC.out]
          by_cases hlt2 : k < i
          · have hlk : k < ns.length := by omega
            obtain ⟨b2, o2, hix2, hc2, hbl2⟩ := hs.atN k hlk cap0
            have hck := (hbel.cell (p := ⟨b2, o2, none⟩) hbl2).trans hc2
            have hcdk : wr.cell? ⟨g, k, none⟩ = some (.int .i64 (Hm.code ns k : Int)) := hrow.cell (i := k) hlk
            have hm15 := Hm.len_le hsh k
            have hdb := Hm.code_lt_max hsh hsr k
            generalize hLK : Hm.len ns k = M at hck hm15 hc2
            generalize hCK : Hm.code ns k = d at hcdk hdb
            have HL2 := Lib.hid hLK
            have HC2 := Lib.hid hCK
            clear hLK hCK hc2
            have a1 : (0 : Int) ≤ (i : Int) := by omega
            have a2 : (i : Int) < (ns.length : Int) := by omega
            have a3 : (0 : Int) ≤ (k : Int) := by omega
            have a4 : (k : Int) < (ns.length : Int) := by omega
            rcases (show M = 0 ∨ (0 < M ∧ M ≤ L) ∨ (L < M) by omega) with hD | hD | hD
            · have g1 : decide ((0 : Int) < (M : Int)) = false := by simp; omega
              clear hD HL HL2 HC HC2
              generalize (M : Int) = m at *
              generalize (L : Int) = l at *
              generalize (c : Int) = x at *
              generalize (d : Int) = y at *
              go_wp2
              go_quiet (fail)
              clear hix hix2
              go_wp2
              go_roundw
              case rel => exact ⟨k + 1, by omega, by go_num, hrow, ht_drew ht _, below_drewN hbel _⟩
              case measure => simp [intOf]; omega
            · have g1 : decide ((0 : Int) < (M : Int)) = true := by simp; omega
              have s1 : IntKind.i64.wrap ((L : Int) - (M : Int)) = (L : Int) - (M : Int) := IntWalk.i64_in _ (by omega)
              have s2 : IntKind.i64.wrap ((M : Int) - (L : Int)) = (M : Int) - (L : Int) := IntWalk.i64_in _ (by omega)
              have g2 : decide ((M : Int) ≤ (L : Int)) = true := by simp; omega
              have g3 : decide ((L : Int) < (M : Int)) = false := by simp; omega
              have g6 : ((L : Int) - (M : Int)).toNat = L - M := by omega
              have g7 : ¬ (L : Int) - (M : Int) < 0 := by omega
              have hq : c / 2 ^ (L - M) ≠ d := by
                rw [← HC.out, ← HC2.out, ← HL.out, ← HL2.out]
                rcases Nat.lt_or_ge (Hm.len ns k) (Hm.len ns i) with h | h
                · have := Hm.code_cut (ns := ns) (i := k) (k := i) (by rw [HL2.out]; omega) h
                  omega
                · have he : Hm.len ns i = Hm.len ns k := by rw [HL.out, HL2.out] at *; omega
                  rw [he, Nat.sub_self, Nat.pow_zero, Nat.div_one]
                  exact Hm.code_ne (by rw [HL.out]; omega) (by omega) he
              have g5 : ((c : Int) / 2 ^ (L - M) == (d : Int)) = false := by
                have e : (c : Int) / 2 ^ (L - M) = ((c / 2 ^ (L - M) : Nat) : Int) := by simp
                rw [e, beq_eq_false_iff_ne]; omega
              clear hq
              clear hD HL HL2 HC HC2
              generalize (M : Int) = m at *
              generalize (L : Int) = l at *
              generalize (c : Int) = x at *
              generalize (d : Int) = y at *
              go_wp2
              go_quiet (fail)
              clear hix hix2
              go_wp2
              go_roundw
              case rel => exact ⟨k + 1, by omega, by go_num, hrow, ht_drew ht _, below_drewN hbel _⟩
              case measure => simp [intOf]; omega
            · have g1 : decide ((0 : Int) < (M : Int)) = true := by simp; omega
              have s1 : IntKind.i64.wrap ((L : Int) - (M : Int)) = (L : Int) - (M : Int) := IntWalk.i64_in _ (by omega)
              have s2 : IntKind.i64.wrap ((M : Int) - (L : Int)) = (M : Int) - (L : Int) := IntWalk.i64_in _ (by omega)
              have g2 : decide ((M : Int) ≤ (L : Int)) = false := by simp; omega
              have g3 : decide ((L : Int) < (M : Int)) = true := by simp; omega
              have g6 : ((M : Int) - (L : Int)).toNat = M - L := by omega
              have g7 : ¬ (M : Int) - (L : Int) < 0 := by omega
              have hq := Hm.code_cut (ns := ns) (i := i) (k := k) (by rw [HL.out]; omega) (by rw [HL.out, HL2.out]; omega)
              rw [HC.out, HC2.out, HL.out, HL2.out] at hq
              have g5 : ((d : Int) / 2 ^ (M - L) == (c : Int)) = false := by
                have e : (d : Int) / 2 ^ (M - L) = ((d / 2 ^ (M - L) : Nat) : Int) := by simp
                rw [e, beq_eq_false_iff_ne]; omega
              clear hq
              clear hD HL HL2 HC HC2
              generalize (M : Int) = m at *
              generalize (L : Int) = l at *
              generalize (c : Int) = x at *
              generalize (d : Int) = y at *
              go_wp2
              go_quiet (fail)
              clear hix hix2
              go_wp2
              go_roundw
              case rel => exact ⟨k + 1, by omega, by go_num, hrow, ht_drew ht _, below_drewN hbel _⟩
              case measure => simp [intOf]; omega
          · go_wp2
            go_roundw
            case rel => exact ⟨i + 1, by omega, by go_num, hrow, ht, hbel⟩
            case measure => simp [intOf]; omega
    · go_wp2
      go_ret
      exact ⟨rfl, hbel⟩
theorem walk_HuffBack (a0 : Option Addr) (cap0 : Nat) (ls : List Int) (a1 : ByteArray) (w : World) (hs : SInts w a0 ls) (hm : ls.length ≤ maxLen) (_hw : ∀ n ∈ ls, (Lit.int .i64 n).wf = true) (z1 : a1.size ≤ 140737488351232) :
    Calls Try.prog 5 #[.slice a0 ls.length cap0, .string a1] w fun e w' => e = .returned (.bool true) ∧ Below w.heap.size w w' := by
  rcases bad_or ls with hbad | ⟨ns, rfl, hsh, hl⟩
  · go_enter Try.func5, Try.ntmps5
    go_wp2_with fail
    refine (codes_out a0 cap0 ls w hs hm hbad).mono ?_
    rintro e w1 ⟨rfl, hb1⟩
    go_wp2_with fail
    refine (new_out a0 cap0 ls w1 (hs.later hb1) hm hbad).mono ?_
    rintro e w4 ⟨rfl, hb4⟩
    go_wp2_with fail
    refine (fixed08 _).mono ?_
    rintro e w2 ⟨rfl, hb2⟩
    go_wp2_with fail
    refine (fixed08 _).mono ?_
    rintro e w3 ⟨rfl, hb3⟩
    go_wp2_with fail
    go_ret
    exact ⟨rfl, belThen (belThen (belThen hb1 hb4) hb2) hb3⟩
  · rw [ints_length]
    by_cases herr : Hm.err ns = 0
    · exact back_in a0 cap0 ns a1 w hs hsh hl herr (err_shareB herr) z1
    · have herr' : (Hm.err ns != 0) = true := by rw [bne_iff_ne]; exact herr
      go_enter Try.func5, Try.ntmps5
      go_wp2_with fail
      refine (codes_err a0 cap0 ns w hs hsh hl herr).mono ?_
      rintro e w1 ⟨rfl, hb1⟩
      go_wp2_with fail
      refine (new_err a0 cap0 ns w1 (hs.later hb1) hsh hl herr).mono ?_
      rintro e w4 ⟨rfl, hb4⟩
      generalize Hm.err ns = er at *
      clear herr
      go_wp2_with fail
      refine (fixed08 _).mono ?_
      rintro e w2 ⟨rfl, hb2⟩
      go_wp2_with fail
      refine (fixed08 _).mono ?_
      rintro e w3 ⟨rfl, hb3⟩
      go_wp2_with fail
      go_ret
      exact ⟨rfl, belThen (belThen (belThen hb1 hb4) hb2) hb3⟩
end Go.Proofs.Ytlhoahnjedpgaaa
