/- the reference's Share: that of lengths: its contract. -/
import Derived.Test.YtlhoahnjedpgaaaCounted
namespace Go.Proofs.Ytlhoahnjedpgaaa
open Go.RowKit

theorem part_shr (l : Nat) (h : l ≤ 15) (h0 : l ≠ 0) : (32768 : Int) / 2 ^ l = (Hm.part l : Nat) := by
  unfold Hm.part; rw [if_neg h0]
  have e : (32768 : Nat) = 2 ^ (15 - l) * 2 ^ l := by rw [← Nat.pow_add, show 15 - l + l = 15 by omega]
  have : (32768 : Int) / 2 ^ l = ((32768 / 2 ^ l : Nat) : Int) := by simp
  rw [this, e, Nat.mul_div_cancel _ (Nat.two_pow_pos _)]

set_option maxRecDepth 100000 in
set_option maxHeartbeats 1000000 in
theorem share_in (ao : Option Addr) (cap : Nat) (ns : List Nat) (w : World) (hs : SInts w ao (ints ns)) (hsh : Hm.Short ns) (hl : ns.length ≤ 288) :
    Calls Try.prog 16 #[.slice ao ns.length cap] w fun e w' => e = .returned (.int .i64 (Hm.share ns : Nat)) ∧ w = w' := by
  go_enter Try.func16, Try.ntmps16
  go_wp2
  go_loop [3, 4] (fun sh i => ∃ k : Nat, k ≤ ns.length ∧ i = .int .i64 k ∧ sh = .int .i64 (Hm.share (ns.take k) : Nat)) (fun _ i => ns.length - (intOf i).toNat)
  case atStart => exact ⟨0, by omega, rfl, rfl⟩
  case round =>
    obtain ⟨k, hk, rfl, rfl⟩ := hrel
    by_cases hlt : k < ns.length
    · obtain ⟨b, o, hix, hc, hbl⟩ := hs.atN k hlt cap
      have hl15 := Hm.len_le hsh k
      have hsb : Hm.share (ns.take k) ≤ 9437184 := share_le ns k hl
      have HSH := Lib.hid (share_step ns k hlt)
      generalize hlk : Hm.len ns k = l at *
      clear hlk
      generalize Hm.share (ns.take k) = sh at *
      by_cases hz : l = 0
      · subst hz
        go_wp2
        go_round
        case rel => exact ⟨k + 1, by omega, by go_num, val_int (by rw [HSH.out]; simp [Hm.part])⟩
        case measure => simp [intOf]; omega
      · have hp := part_shr l hl15 hz
        have hpb : Hm.part l ≤ 32768 := by
          unfold Hm.part; rw [if_neg hz]; exact Nat.pow_le_pow_right (n := 2) (j := 15) (by omega) (by omega)
        have hp0 : (0 : Int) ≤ 32768 / 2 ^ l := by rw [hp]; omega
        have hp1 : (32768 : Int) / 2 ^ l ≤ 32768 := by rw [hp]; omega
        have HP := Lib.hid hp
        clear hp
        go_wp2
        go_round
        case rel => exact ⟨k + 1, by omega, by go_num, val_int (by rw [HSH.out, HP.out]; simp)⟩
        case measure => simp [intOf]; omega
    · obtain rfl : k = ns.length := by omega
      rw [List.take_length]
      go_wp2
      go_ret
      exact ⟨rfl, rfl⟩
/-- where lengths stop being what they may be -/
theorem first_stop {ls : List Int} (h : BadL ls) : ∃ (k : Nat) (x : Int), ls[k]? = some x ∧ k ≤ 288 ∧ (k = 288 ∨ x < 0 ∨ 15 < x) ∧ ∀ (j : Nat) (y : Int), j < k → ls[j]? = some y → 0 ≤ y ∧ y ≤ 15 := by
  by_cases hb : ∃ (k : Nat) (x : Int), (ls.take 288)[k]? = some x ∧ (x < 0 ∨ 15 < x)
  · obtain ⟨k, x, h1, h2, h3⟩ := first_bad hb
    have hk : k < (ls.take 288).length := (List.getElem?_eq_some_iff.1 h1).1
    rw [List.length_take] at hk
    refine ⟨k, x, by rw [← List.getElem?_take_of_lt (show k < 288 by omega)]; exact h1, by omega, .inr h2, fun j y hj hy => ?_⟩
    have := h3 j y hj (by rw [List.getElem?_take_of_lt (by omega)]; exact hy)
    omega
  · have hg : ∀ (j : Nat) (y : Int), j < 288 → ls[j]? = some y → 0 ≤ y ∧ y ≤ 15 := fun j y hj hy => by
      have : ¬ (y < 0 ∨ 15 < y) := fun hq => hb ⟨j, y, by rw [List.getElem?_take_of_lt hj]; exact hy, hq⟩
      omega
    have hl : 288 < ls.length := by
      rcases h with h | ⟨k, x, h1, h2⟩
      · exact h
      · have hk : k < ls.length := (List.getElem?_eq_some_iff.1 h1).1
        rcases Nat.lt_or_ge k 288 with h' | h'
        · have := hg k x h' h1; omega
        · omega
    exact ⟨288, ls[288], List.getElem?_eq_getElem hl, Nat.le_refl _, .inl rfl, fun j y hj hy => hg j y hj hy⟩

set_option maxRecDepth 100000 in
set_option maxHeartbeats 1000000 in
theorem share_out (ao : Option Addr) (cap : Nat) (ls : List Int) (w : World) (hs : SInts w ao ls) (hbad : BadL ls) :
    Calls Try.prog 16 #[.slice ao ls.length cap] w fun e w' => e = .returned (.int .i64 (-1)) ∧ w = w' := by
  obtain ⟨k0, x0, hk0, h288, hx0, hgood⟩ := first_stop hbad
  have hk0l : k0 < ls.length := (List.getElem?_eq_some_iff.1 hk0).1
  have HG := Lib.hid hgood
  have HK := Lib.hid hk0
  clear hgood hk0 hbad
  go_enter Try.func16, Try.ntmps16
  go_wp2
  go_loop [3, 4] (fun sh i => ∃ k : Nat, ∃ s : Int, k ≤ k0 ∧ i = .int .i64 k ∧ sh = .int .i64 s ∧ 0 ≤ s ∧ s ≤ 32768 * (k : Int)) (fun _ i => k0 - (intOf i).toNat)
  case atStart => exact ⟨0, 0, by omega, rfl, rfl, by omega, by omega⟩
  case round =>
    obtain ⟨k, s, hk, rfl, rfl, hs0, hs1⟩ := hrel
    by_cases hlt : k = k0
    · subst hlt
      by_cases h288' : k = 288
      · subst h288'
        go_wp2
        go_ret
        exact ⟨rfl, rfl⟩
      · obtain ⟨b, o, hix, hc, hbl⟩ := hs.at k _ HK.out cap
        have hx1 := hx0.resolve_left h288'
        clear hx0 HG hs0 hs1
        rcases hx1 with h1 | h1
        · go_wp2
          go_ret
          exact ⟨rfl, rfl⟩
        · go_wp2
          go_ret
          exact ⟨rfl, rfl⟩
    · have hkl : k < ls.length := by omega
      obtain ⟨b, o, hix, hc, hbl⟩ := hs.at k _ (List.getElem?_eq_getElem hkl) cap
      have hgd := HG.out k _ (by omega) (List.getElem?_eq_getElem hkl)
      generalize ls[k] = x at *
      obtain ⟨l, rfl⟩ := Int.eq_ofNat_of_zero_le hgd.1
      have hl15 : l ≤ 15 := by omega
      clear hgd hx0
      by_cases hz : l = 0
      · subst hz
        go_wp2
        go_round
        case rel => exact ⟨k + 1, s, by omega, by go_num, rfl, hs0, by omega⟩
        case measure => simp [intOf]; omega
      · have hp := part_shr l hl15 hz
        have hpb : Hm.part l ≤ 32768 := by
          unfold Hm.part; rw [if_neg hz]; exact Nat.pow_le_pow_right (n := 2) (j := 15) (by omega) (by omega)
        have hp0 : (0 : Int) ≤ 32768 / 2 ^ l := by rw [hp]; omega
        have hp1 : (32768 : Int) / 2 ^ l ≤ 32768 := by rw [hp]; omega
        clear hp hpb
        go_wp2
        go_round
        case rel => exact ⟨k + 1, _, by omega, by go_num, rfl, by omega, by omega⟩
        case measure => simp [intOf]; omega
end Go.Proofs.Ytlhoahnjedpgaaa
