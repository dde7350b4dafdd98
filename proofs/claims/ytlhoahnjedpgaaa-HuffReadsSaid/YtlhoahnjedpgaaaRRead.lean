/- the reference's Bit and Read: the symbol at a bit, by codes: their contracts. -/
import Derived.Test.YtlhoahnjedpgaaaRead
import Derived.Test.YtlhoahnjedpgaaaOwn
namespace Go.Proofs.Ytlhoahnjedpgaaa
open Go.RowKit

theorem rbit_any (s : ByteArray) (bt : Nat) (w : World) (h : bt / 8 < s.size) (hs : s.size ≤ 281474976710656) :
    Calls Try.prog 18 #[.string s, .int .i64 bt] w fun e w' => e = .returned (.int .i64 (Hm.bitOf s.data.toList bt : Nat)) ∧ w = w' := by
  have hb := Cm.byte_lt s[bt / 8]
  have e0 : s.data.toList.getD (bt / 8) 0 = s[bt / 8] := by
    rw [List.getD_eq_getElem?_getD, List.getElem?_eq_getElem (by rw [Array.length_toList]; exact h)]; rfl
  have HV : Hid (bits BinOp.and IntKind.i64 ((s[bt / 8].toNat : Int) / 2 ^ (bt % 8)) 1 = (Hm.bitOf s.data.toList bt : Nat)) := by
    show _ = _
    unfold Hm.bitOf
    rw [e0]
    have e1 : (s[bt / 8].toNat : Int) / 2 ^ (bt % 8) = ((s[bt / 8].toNat / 2 ^ (bt % 8) : Nat) : Int) := by simp
    have hd := Nat.div_le_self s[bt / 8].toNat (2 ^ (bt % 8))
    rw [e1]
    generalize s[bt / 8].toNat / 2 ^ (bt % 8) = y at *
    have e2 := bits_and_i64 y 1 (by omega) (by omega)
    rw [nat_mask1] at e2
    exact e2
  clear e0
  have r2 : (0 : Int) ≤ (bt : Int) / 8 := by omega
  have r3 : (bt : Int) / 8 < (s.size : Int) := by omega
  go_enter Try.func18, Try.ntmps18
  go_wp2
  go_ret
  refine ⟨?_, rfl⟩
  rw [← HV.out]
  first | rfl | (congr 3; simp)

def beg (ns : List Nat) (c l : Nat) : Nat → Bool
  | 0 => false
  | i + 1 => beg ns c l i || decide (l < Hm.len ns i ∧ Hm.code ns i / 2 ^ (Hm.len ns i - l) = c)
theorem beg_true {ns : List Nat} {c l : Nat} : ∀ i, beg ns c l i = true → ∃ j, j < i ∧ l < Hm.len ns j ∧ Hm.code ns j / 2 ^ (Hm.len ns j - l) = c := by
  intro i
  induction i with
  | zero => intro h; simp [beg] at h
  | succ i ih =>
    intro h
    rw [beg, Bool.or_eq_true] at h
    rcases h with h | h
    · obtain ⟨j, a, b⟩ := ih h; exact ⟨j, by omega, b⟩
    · exact ⟨i, by omega, by simpa using h⟩
theorem beg_false {ns : List Nat} {c l : Nat} : ∀ i, beg ns c l i = false → ∀ j, j < i → l < Hm.len ns j → Hm.code ns j / 2 ^ (Hm.len ns j - l) ≠ c := by
  intro i
  induction i with
  | zero => intro _ j hj; omega
  | succ i ih =>
    intro h j hj h1 h2
    rw [beg, Bool.or_eq_false_iff] at h
    rcases Nat.lt_or_ge j i with h' | h'
    · exact ih h.1 j h' h1 h2
    · obtain rfl : j = i := by omega
      have := h.2
      simp only [decide_eq_false_iff_not] at this
      exact this ⟨h1, h2⟩
theorem tab_beg {ns : List Nat} {c l : Nat} (h : beg ns c l ns.length = true) : Hm.tab ns c l = some (-1) := by
  obtain ⟨j, h1, h2, h3⟩ := beg_true _ h
  rw [← h3]; exact Hm.tab_pre h2 _ h1
theorem tab_nobeg {ns : List Nat} {c l : Nat} (h : beg ns c l ns.length = false) (hn : ∀ j, j < ns.length → 0 < l → Hm.len ns j = l → Hm.code ns j ≠ c) : Hm.tab ns c l = none :=
  Hm.tab_none (fun i h1 h2 => hn i (Hm.len_lt h1) (by omega) h2) (fun i h1 => beg_false _ h i (Hm.len_lt (by omega)) h1) _

set_option maxRecDepth 100000 in
set_option maxHeartbeats 4000000 in
theorem rread_in (ao : Option Addr) (cap : Nat) (gm : Nat) (ns : List Nat) (s : ByteArray) (bit : Nat) (w : World) (hs : SInts w ao (ints ns)) (hrm : w.rowIs gm 3 ns.length (cdf ns)) (hsh : Hm.Short ns) (hl : ns.length ≤ 288) (hsr : Hm.share ns ≤ 32768) (hz : s.size ≤ 281474976710656) (hbit : bit ≤ 9223372036854775807) :
    Calls Try.prog 14 #[.slice ao ns.length cap, .slice (some ⟨gm, 0, none⟩) ns.length ns.length, .string s, .int .i64 bit] w fun e w' => e = .returned (tri (Hm.read ns s.data.toList bit)) ∧ Below w.heap.size w w' := by
  have hd0 : decide ((bit : Int) < 0) = false := by simp
  go_enter Try.func14, Try.ntmps14
  go_wp2
  clear hd0
  go_loopw [3, 11, 12, 13, 14] (fun b g n _ _ wr => ∃ c l bt : Nat, l ≤ 16 ∧ c < 2 ^ l ∧ bt ≤ 9223372036854775807 ∧ b = .int .i64 (bt : Int) ∧ g = .int .i64 (c : Int) ∧ n = .int .i64 (l : Int) ∧ Hm.rd (Hm.tab ns) s.data.toList (17 - l) c l bt = Hm.read ns s.data.toList bit ∧ Below w.heap.size w wr) (fun _ _ n _ _ _ => 16 - (intOf n).toNat)
  case atStart => exact ⟨0, 0, bit, by omega, by decide, hbit, rfl, rfl, rfl, rfl, Below.refl _ _⟩
  case round =>
    obtain ⟨c, l, bt, hl16, hc2, hbt, rfl, rfl, rfl, hrd, hbel⟩ := hrel
    have HRD := Lib.hid hrd
    have HC2 := Lib.hid hc2
    have hc16 : c < 65536 := Nat.lt_of_lt_of_le hc2 (Nat.pow_le_pow_right (n := 2) (j := 16) (by omega) hl16)
    clear hrd hc2
    by_cases hlt : l ≤ 15
    · obtain ⟨wo, rfl⟩ : ∃ wo : World, wo = wr := ⟨_, rfl⟩
      have hdl : decide ((l : Int) ≤ 15) = true := by simp; omega
      go_wp2
      clear hdl
      go_loopw [13, 14] (fun bg ii wr => ∃ i : Nat, i ≤ ns.length ∧ ii = .int .i64 i ∧ bg = .bool (beg ns c l i) ∧ (∀ j, j < i → 0 < l → Hm.len ns j = l → Hm.code ns j ≠ c) ∧ Below w.heap.size w wr) (fun _ ii _ => ns.length - (intOf ii).toNat)
      case atStart => exact ⟨0, by omega, rfl, rfl, fun j hj => by omega, hbel⟩
      case round =>
        clear hbel
        obtain ⟨i, hi, rfl, rfl, hno, hbel⟩ := hrel
        have HNO := Lib.hid hno
        clear hno
        by_cases hlt2 : i < ns.length
        · obtain ⟨b, o, hix, hcl, hbl⟩ := hs.atN i hlt2 cap
          have hcr := (hbel.cell (p := ⟨b, o, none⟩) hbl).trans hcl
          have hcm : wr.cell? ⟨gm, i, none⟩ = some (.int .i64 (Hm.code ns i : Nat)) := by rw [hbel.cell (p := ⟨gm, i, none⟩) hrm.lt]; exact hrm.cell (i := i) hlt2
          have hl15 := Hm.len_le hsh i
          have hcd := Hm.code_lt_max hsh hsr i
          have HTC := Lib.hid (fun h => Hm.tab_code (ns := ns) (i := i) h ns.length hlt2)
          have HB : Hid (beg ns c l (i + 1) = (beg ns c l i || decide (l < Hm.len ns i ∧ Hm.code ns i / 2 ^ (Hm.len ns i - l) = c))) := rfl
          clear hcl
          generalize hLI : Hm.len ns i = L at *
          generalize hCI : Hm.code ns i = d at *
          have HL := Lib.hid hLI
          have HC := Lib.hid hCI
          clear hLI hCI
          have a1 : (0 : Int) ≤ (i : Int) := by omega
          have a2 : (i : Int) < (ns.length : Int) := by omega
          by_cases hhit : L = l ∧ 0 < l ∧ d = c
          · obtain ⟨rfl, h0, rfl⟩ := hhit
            have HE : Hid (Hm.read ns s.data.toList bit = ((i : Int), (bt : Int), 0)) := by
              show _ = _
              rw [← HRD.out, show 17 - L = (16 - L) + 1 by omega]
              exact Hm.rd_sym (HTC.out (by omega)) (by omega)
            clear HRD HTC HB
            have g1 : ((L : Int) == (L : Int)) = true := by simp
            have g2 : decide ((0 : Int) < (L : Int)) = true := by simp; omega
            have g3 : ((d : Int) == (d : Int)) = true := by simp
            go_wp2
            go_ret3
            exact ⟨by rw [HE.out]; rfl, hbel⟩
          · have HNO2 : Hid (∀ j, j < i + 1 → 0 < l → Hm.len ns j = l → Hm.code ns j ≠ c) := fun j hj h1 h2 h3 => by
              rcases Nat.lt_or_ge j i with h | h
              · exact HNO.out j h h1 h2 h3
              · obtain rfl : j = i := by omega
                rw [HL.out] at h2; rw [HC.out] at h3
                exact hhit ⟨h2, h1, h3⟩
            clear HTC HNO
            have hsk : (((L : Int) == (l : Int)) = false) ∨ (((L : Int) == (l : Int)) = true ∧ ¬ 0 < l) ∨ (((L : Int) == (l : Int)) = true ∧ 0 < l ∧ ((d : Int) == (c : Int)) = false) := by
              by_cases e1 : L = l
              · by_cases e2 : 0 < l
                · right; right
                  refine ⟨by simp [e1], e2, ?_⟩
                  rw [beq_eq_false_iff_ne]; intro e3; exact hhit ⟨e1, e2, by omega⟩
                · right; left; exact ⟨by simp [e1], e2⟩
              · left; rw [beq_eq_false_iff_ne]; omega
            have hbg : (beg ns c l i = true) ∨ (beg ns c l i = false ∧ decide ((l : Int) < (L : Int)) = false ∧ ¬ l < L) ∨ (beg ns c l i = false ∧ decide ((l : Int) < (L : Int)) = true ∧ l < L ∧ ((d : Int) / 2 ^ (L - l) == (c : Int)) = decide (d / 2 ^ (L - l) = c)) := by
              have e : (d : Int) / 2 ^ (L - l) = ((d / 2 ^ (L - l) : Nat) : Int) := by simp
              cases hB : beg ns c l i with
              | true => exact .inl rfl
              | false =>
                right
                by_cases h : l < L
                · right
                  refine ⟨rfl, by simp; omega, h, ?_⟩
                  rw [e]
                  by_cases hq : d / 2 ^ (L - l) = c
                  · simp [hq]
                  · rw [decide_eq_false hq, beq_eq_false_iff_ne]; omega
                · left; exact ⟨rfl, by simp; omega, h⟩
            clear hhit
            have s1 : IntKind.i64.wrap ((L : Int) - (l : Int)) = (L : Int) - (l : Int) := IntWalk.i64_in _ (by omega)
            have s4 : l < L → ((L : Int) - (l : Int)).toNat = L - l := fun _ => by omega
            have hall : ∃ r : Bool, beg ns c l (i + 1) = r ∧ ((beg ns c l i = true ∧ r = true) ∨ (beg ns c l i = false ∧ decide ((l : Int) < (L : Int)) = false ∧ r = false) ∨ (beg ns c l i = false ∧ decide ((l : Int) < (L : Int)) = true ∧ ((L : Int) - (l : Int)).toNat = L - l ∧ ¬ (L : Int) - (l : Int) < 0 ∧ ((d : Int) / 2 ^ (L - l) == (c : Int)) = r)) := by
              refine ⟨_, rfl, ?_⟩
              rw [HB.out]
              rcases hbg with h | ⟨h, h1, h2⟩ | ⟨h, h1, h2, h3⟩
              · left; rw [h]; exact ⟨rfl, rfl⟩
              · have hd2 : decide (l < L ∧ d / 2 ^ (L - l) = c) = false := decide_eq_false (fun q => h2 q.1)
                right; left; rw [h, hd2]; exact ⟨rfl, h1, rfl⟩
              · right; right; rw [h]; refine ⟨rfl, h1, s4 h2, by omega, ?_⟩
                rw [h3, Bool.false_or]
                by_cases hq : d / 2 ^ (L - l) = c
                · rw [decide_eq_true hq, decide_eq_true ⟨h2, hq⟩]
                · rw [decide_eq_false hq, decide_eq_false (fun q => hq q.2)]
            clear hbg s4 HB
            obtain ⟨r, hr, hall⟩ := hall
            have HV := Lib.hid hr
            clear hr
            generalize beg ns c l i = B at *
            clear HL HC
            generalize hLi : (L : Int) = m at *
            generalize hdi : (d : Int) = y at *
            clear hLi hdi
            rcases hsk with k1 | ⟨k1, k2⟩ | ⟨k1, k2, k3⟩
            all_goals
              rcases hall with ⟨rfl, rfl⟩ | ⟨rfl, g1, rfl⟩ | ⟨rfl, g1, g2, g3, g4⟩
              all_goals try cases r
            all_goals
              go_wp2
              go_quiet (fail)
              clear hix
              go_wp2
              go_roundw
              case rel => exact ⟨i + 1, by omega, by go_num, by rw [HV.out], HNO2.out, below_drewN hbel _⟩
              case measure => simp [intOf]; omega
        · obtain rfl : i = ns.length := by omega
          cases hB : beg ns c l ns.length with
          | false =>
            have HE : Hid (Hm.read ns s.data.toList bit = (0, 0, 83)) := by
              show _ = _
              rw [← HRD.out, show 17 - l = (16 - l) + 1 by omega]
              exact Hm.rd_none (tab_nobeg hB HNO.out)
            clear HRD HNO hB
            go_wp2
            go_ret3
            exact ⟨by rw [HE.out]; rfl, hbel⟩
          | true =>
            have ht := tab_beg hB
            by_cases hend : s.size ≤ bt / 8
            · have HE : Hid (Hm.read ns s.data.toList bit = (0, 0, 84)) := by
                show _ = _
                rw [← HRD.out, show 17 - l = (16 - l) + 1 by omega]
                exact Hm.rd_end ht (by omega) (by rw [Array.length_toList]; exact hend)
              have he' : decide ((s.size : Int) ≤ (bt : Int) / 8) = true := by simp; omega
              clear HRD HNO hB ht
              go_wp2
              go_ret3
              exact ⟨by rw [HE.out]; rfl, hbel⟩
            · have HE : Hid (Hm.rd (Hm.tab ns) s.data.toList (17 - (l + 1)) (2 * c + Hm.bitOf s.data.toList bt) (l + 1) (bt + 1) = Hm.read ns s.data.toList bit) := by
                show _ = _
                rw [← HRD.out, show 17 - l = (17 - (l + 1)) + 1 by omega]
                exact (Hm.rd_on ht (by omega) (by rw [Array.length_toList]; exact hend)).symm
              have he' : decide ((s.size : Int) ≤ (bt : Int) / 8) = false := by simp; omega
              have hbo := Hm.bitOf_le s.data.toList bt
              have HBC := Lib.hid (rbit_any s bt wr (by omega) hz)
              clear HRD HNO hB ht
              generalize Hm.bitOf s.data.toList bt = q at *
              go_wp2_with fail
              refine HBC.out.mono ?_
              rintro e w5 ⟨rfl, rfl⟩
              go_wp2_with fail
              go_roundw
              case rel => exact ⟨2 * c + q, l + 1, bt + 1, by omega, by have := HC2.out; rw [Nat.pow_succ]; omega, by omega, by go_num, by go_num, by go_num, HE.out, hbel⟩
              case measure => simp [intOf]; omega
    · obtain rfl : l = 16 := by omega
      have HE : Hid (Hm.read ns s.data.toList bit = (0, 0, 83)) := by
        show _ = _
        rw [← HRD.out]
        exact Hm.rd_none (Hm.tab_long hsh (by omega) _)
      clear HRD
      go_wp2
      go_ret3
      exact ⟨by rw [HE.out]; rfl, hbel⟩
theorem rread_neg (v1 v2 : Value) (s : ByteArray) (bit : Int) (w : World) (h : bit < 0) :
    Calls Try.prog 14 #[v1, v2, .string s, .int .i64 bit] w fun e w' => e = .returned (tri (0, 0, 80)) ∧ w = w' := by
  go_enter Try.func14, Try.ntmps14
  go_wp2
  go_ret3
  exact ⟨rfl, rfl⟩
end Go.Proofs.Ytlhoahnjedpgaaa
