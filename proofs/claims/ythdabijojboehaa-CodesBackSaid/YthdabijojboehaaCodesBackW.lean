/- farrierlaw02.CodesBack: the walk. -/
import Derived.Test.YthdabijojboehaaAll02
import Derived.Test.YthdabijojboehaaFixed02
namespace Go.Proofs.Ythdabijojboehaa
open Go.RowKit

theorem bthen {w w1 w2 : World} (h : Below w.heap.size w w1) (h2 : Below w1.heap.size w1 w2) : Below w.heap.size w w2 := h.trans (h2.mono h.size)
theorem putOk_nat {n b : Int} (h : putOk n b) : ∃ m c : Nat, n = m ∧ b = c ∧ 1 ≤ c ∧ c ≤ 7 ∧ m < 256 ^ c := by
  obtain ⟨h1, h2, h3, h4⟩ := h
  obtain ⟨m, rfl⟩ := Int.eq_ofNat_of_zero_le h3
  obtain ⟨c, rfl⟩ := Int.eq_ofNat_of_zero_le (show 0 ≤ b by omega)
  rw [Int.toNat_natCast, ← pow_cast] at h4
  exact ⟨m, c, rfl, rfl, by omega, by omega, by omega⟩
theorem put_bad (n b : Int) (w : World) (hn0 : -9223372036854775808 ≤ n) (hn1 : n ≤ 9223372036854775807) (h : ¬ putOk n b) :
    Calls Try.prog 10 #[.int .i64 n, .int .i64 b] w fun e w' => e = .returned (.tuple #[.string ⟨#[]⟩, .int .i64 20]) ∧ Below w.heap.size w w' := by
  have := put_all n b w hn0 hn1
  rw [putS, putE, if_neg h, if_neg h] at this; exact this
theorem size_putL (n k : Nat) : (ByteArray.mk (Cm.putL n k).toArray).size = k := by
  rw [← Cm.len_list]; simp [Cm.putL_length]
theorem get_put (m c : Nat) (w : World) (h1 : 1 ≤ c) (h7 : c ≤ 7) (hm : m < 256 ^ c) :
    Calls Try.prog 12 #[.string ⟨(Cm.putL m c).toArray⟩] w fun e w' => e = .returned (.tuple #[.int .i64 m, .int .i64 0]) ∧ w = w' := by
  have h := get_yes ⟨(Cm.putL m c).toArray⟩ w (by rw [size_putL]; exact h1) (by rw [size_putL]; exact h7)
  have e : (Cm.getN (ByteArray.mk (Cm.putL m c).toArray).data.toList) = m := by
    show Cm.getN (Cm.putL m c).toArray.toList = m
    rw [List.toList_toArray, Cm.getN_putL, Nat.mod_eq_of_lt hm]
  rw [e] at h; exact h
theorem put_get (s : ByteArray) (w : World) (h1 : 1 ≤ s.size) (h7 : s.size ≤ 7) :
    Calls Try.prog 10 #[.int .i64 (Cm.getN s.data.toList : Nat), .int .i64 s.size] w fun e w' => e = .returned (.tuple #[.string s, .int .i64 0]) ∧ Below w.heap.size w w' := by
  have hl := Cm.getN_lt s.data.toList
  rw [Cm.len_list] at hl
  have h := put_yes (Cm.getN s.data.toList) s.size w h1 h7 hl
  have e : ByteArray.mk (Cm.putL (Cm.getN s.data.toList) s.size).toArray = s := by
    have := Cm.putL_getN s.data.toList
    rw [Cm.len_list] at this
    rw [this]
  rw [e] at h; exact h
theorem unhex_back (s : ByteArray) (w : World) (hs : s.size ≤ 140737488351232) :
    Calls Try.prog 15 #[.string ⟨(Cm.hex s.data.toList).toArray⟩] w fun e w' => e = .returned (.tuple #[.string s, .int .i64 0]) ∧ Below w.heap.size w w' := by
  have h := unhex_any ⟨(Cm.hex s.data.toList).toArray⟩ w (by rw [← Cm.len_list]; simp [Cm.hex_length]; omega)
  have e : unhexV (ByteArray.mk (Cm.hex s.data.toList).toArray).data.toList = .tuple #[.string s, .int .i64 0] := by
    rw [show (ByteArray.mk (Cm.hex s.data.toList).toArray).data.toList = Cm.hex s.data.toList from by simp, unhexV_some (Cm.unhex_hex _)]
  rw [e] at h; exact h
theorem hex_back (s : ByteArray) (t : List UInt8) (w : World) (hs : s.size ≤ 140737488351232) (ht : Cm.unhex s.data.toList = some t) :
    Calls Try.prog 19 #[.string ⟨t.toArray⟩] w fun e w' => e = .returned (.string s) ∧ Below w.heap.size w w' := by
  have hx := Cm.hex_unhex _ _ ht
  have hl := Cm.hex_length t
  rw [hx, Cm.len_list] at hl
  have h := hex_any ⟨t.toArray⟩ w (by rw [← Cm.len_list]; simp; omega)
  have e : ByteArray.mk (Cm.hex (ByteArray.mk t.toArray).data.toList).toArray = s := by
    rw [show (ByteArray.mk t.toArray).data.toList = t from by simp, hx]
  rw [e] at h; exact h

set_option maxHeartbeats 1000000 in
theorem walk_CodesBack (a0 : Int) (a1 : Int) (a2 : ByteArray) (w0 : (Lit.int .i64 a0).wf = true) (_w1 : (Lit.int .i64 a1).wf = true) (z2 : a2.size ≤ 140737488351232) (w : World) :
    Calls Try.prog 5 #[.int .i64 a0, .int .i64 a1, .string a2] w fun e w' => e = .returned (.bool true) ∧ Below w.heap.size w w' := by
  have hb0 := i64_bd w0
  clear w0
  by_cases hp : putOk a0 a1
  case' pos =>
    obtain ⟨m, c, rfl, rfl, h1, h7, hm⟩ := putOk_nat hp
    clear hp
    have HM := Lib.hid hm
    clear hm
    go_enter Try.func5, Try.ntmps5
    go_wp2_with fail
    refine (put_yes _ _ _ h1 h7 HM.out).mono ?_
    rintro e w1 ⟨rfl, hb1⟩
    go_wp2_with fail
    refine (fixed02 _).mono ?_
    rintro e w2 ⟨rfl, hb2⟩
    go_wp2_with fail
    refine (get_put _ _ _ h1 h7 HM.out).mono ?_
    rintro e w4 ⟨rfl, rfl⟩
    have hz := size_putL m c
    generalize ByteArray.mk (Cm.putL m c).toArray = p at *
    go_wp2_with fail
  case' neg =>
    go_enter Try.func5, Try.ntmps5
    go_wp2_with fail
    refine (put_bad _ _ _ hb0.1 hb0.2 hp).mono ?_
    rintro e w1 ⟨rfl, hb1⟩
    go_wp2_with fail
    refine (fixed02 _).mono ?_
    rintro e w2 ⟨rfl, hb2⟩
    go_wp2_with fail
  all_goals
    by_cases hg : getOk a2
    case' pos =>
      obtain ⟨g1, g7⟩ := hg
      refine (get_yes _ _ g1 g7).mono ?_
      rintro e w4 ⟨rfl, rfl⟩
      have PG := put_get a2 w2 g1 g7
      generalize Cm.getN a2.data.toList = gn at *
      have HPG := Lib.hid PG
      clear PG
      go_wp2_with fail
      refine HPG.out.mono ?_
      rintro e w3 ⟨rfl, hb3⟩
      go_wp2_with fail
    case' neg =>
      refine (get_no _ _ (by unfold getOk at hg; omega) (by unfold maxLen; omega)).mono ?_
      rintro e w4 ⟨rfl, rfl⟩
      obtain ⟨w3, rfl⟩ : ∃ w3, w2 = w3 := ⟨_, rfl⟩
      have hb3 := Below.refl w2.heap.size w2
      go_wp2_with fail
  all_goals
    have hbel := bthen (bthen hb1 hb2) hb3
    refine (hex_any _ _ z2).mono ?_
    rintro e w5 ⟨rfl, hb5⟩
    go_wp2_with fail
    refine (unhex_back _ _ z2).mono ?_
    rintro e w6 ⟨rfl, hb6⟩
    generalize ByteArray.mk (Cm.hex a2.data.toList).toArray = hx at *
    go_wp2_with fail
    refine (unhex_any _ _ (by omega)).mono ?_
    rintro e w7 ⟨rfl, hb7⟩
    cases hu : Cm.unhex a2.data.toList with
    | none =>
      rw [unhexV_none hu]
      clear hu
      go_wp2_with fail
      go_ret
      exact ⟨rfl, bthen (bthen (bthen hbel hb5) hb6) hb7⟩
    | some t =>
      rw [unhexV_some hu]
      have HU := Lib.hid hu
      clear hu
      go_wp2_with fail
      refine (hex_back a2 t _ z2 HU.out).mono ?_
      rintro e w8 ⟨rfl, hb8⟩
      go_wp2_with fail
      go_ret
      exact ⟨rfl, bthen (bthen (bthen (bthen hbel hb5) hb6) hb7) hb8⟩
end Go.Proofs.Ythdabijojboehaa
