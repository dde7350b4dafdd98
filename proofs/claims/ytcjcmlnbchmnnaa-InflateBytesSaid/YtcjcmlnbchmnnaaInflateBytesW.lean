/- farrierlaw09.InflateBytes: the walk. -/
import Derived.Test.YtcjcmlnbchmnnaaIFixed9
import Derived.Test.YtcjcmlnbchmnnaaIPut
namespace Go.Proofs.Ytcjcmlnbchmnnaa
open Go.RowKit

theorem RowAt.below {w0 w w' : World} {P : Nat} {bt : List Nat} (h : RowAt w0 w P bt) (hb : Below w.heap.size w w') : RowAt w0 w' P bt := by
  obtain ⟨⟨v, l, h1, h2, h3⟩, h4⟩ := h
  exact ⟨⟨v, l, h1.below hb, h2.below hb, h3⟩, h4⟩
def litsOf (l : List UInt8) : List Nat := l.flatMap fun c => Im.litBits c.toNat
theorem lits_bound : ∀ l : List UInt8, (litsOf l).length ≤ 9 * l.length
  | [] => Nat.le_refl _
  | c :: l => by
    have ih := lits_bound l
    have hc := c.toNat_lt
    unfold litsOf at *
    rw [List.flatMap_cons, List.length_append, Im.litBits_length, Im.fixLit_len _ (by omega), List.length_cons]
    split <;> omega
theorem lits_snoc (s : ByteArray) (k : Nat) (h : k < s.size) : litsOf (s.data.toList.take (k + 1)) = litsOf (s.data.toList.take k) ++ Im.litBits s[k].toNat := by
  rw [Cm.take_snoc s k h]
  simp [litsOf]
set_option maxHeartbeats 4000000 in
set_option maxRecDepth 100000 in
theorem walk_InflateBytes (a0 : ByteArray) (_z0 : a0.size ≤ 140737488351232) (w : World) :
    Calls Try.prog 8 #[.string a0] w fun e w' => e = .returned (.bool true) ∧ Below w.heap.size w w' := by
  have HF := fun w => Lib.hid (fixed9 w)
  by_cases h5 : 20000 < a0.size
  · have q : decide ((20000 : Int) < (a0.size : Int)) = true := by simp; omega
    go_enter Try.func8, Try.ntmps8
    go_wp2_with (go_at_call 25; refine (HF _).out.mono ?_; rintro e w' ⟨rfl, hb⟩)
    go_ret
    exact ⟨rfl, hb⟩
  have q : decide ((20000 : Int) < (a0.size : Int)) = false := by simp; omega
  have HG := Lib.hid (begin_row w)
  go_enter Try.func8, Try.ntmps8
  go_upto_block 0 with (go_at_call 32; refine HG.out.mono ?_; rintro e w1 ⟨rfl, hr0⟩)
  clear HG
  generalize hP : w.heap.size = P at hr0 ⊢
  go_cut [] from 13 to 24 (fun wx => RowAt w wx P ([1, 1, 0] ++ litsOf a0.data.toList))
  case first =>
    go_wp2_with fail
    go_loopw [4] (fun i wr => ∃ k : Nat, i = .int .i64 k ∧ k ≤ a0.size ∧ RowAt w wr P ([1, 1, 0] ++ litsOf (a0.data.toList.take k))) (fun i _ => a0.size - (intOf i).toNat)
    case atStart => exact ⟨0, rfl, by omega, hr0⟩
    case round =>
      clear hr0
      obtain ⟨k, rfl, hk, hr⟩ := hrel
      by_cases hlt : k < a0.size
      · have q1 : decide ((k : Int) < (a0.size : Int)) = true := by simp; omega
        have q1' : decide (k < a0.size) = true := by simp; omega
        have hlb := lits_bound (a0.data.toList.take k)
        rw [List.length_take, blen] at hlb
        have HB := Lib.hid (byte_row w P _ a0[k] wr hr (by rw [List.length_append]; simp only [List.length_cons, List.length_nil]; omega))
        rw [List.append_assoc, ← lits_snoc a0 k hlt] at HB
        have hw64 : wrap64 ((a0[k].toNat : Nat) : Int) = (a0[k].toNat : Int) := by have := a0[k].toNat_lt; unfold wrap64; omega
        clear hr hlb
        go_wp2_with (go_at_call 33; refine HB.out.mono ?_; rintro o w2 ⟨rfl, hr2⟩; replace hr2 := Lib.hid hr2)
        go_roundw
        case rel => exact ⟨k + 1, by go_num, by omega, hr2.out⟩
        case measure => simp [intOf]; omega
      · have q1 : decide ((k : Int) < (a0.size : Int)) = false := by simp; omega
        have q1' : decide (k < a0.size) = false := by simp; omega
        rw [Cm.take_all a0 k (by omega)] at hr
        have HR := Lib.hid hr
        clear hr
        go_wp2_with fail
        go_meet
        exact HR.out
  case rest =>
    clear hr0
    obtain ⟨wa, hwa⟩ : ∃ x : World, x = wc := ⟨wc, rfl⟩
    subst hwa
    have hlb := lits_bound a0.data.toList
    rw [blen] at hlb
    have HB := Lib.hid (put_row w P _ 0 7 wa hcut (by omega) (by omega) (by rw [List.length_append]; simp only [List.length_cons, List.length_nil]; omega))
    have e0 : [1, 1, 0] ++ litsOf a0.data.toList ++ Im.codeBits 0 7 = Im.bytesBits a0.data.toList := by unfold Im.bytesBits litsOf; rw [List.append_assoc]
    have e1 : ((0 : Nat) : Int) = 0 := rfl
    have e2 : ((7 : Nat) : Int) = 7 := rfl
    rw [e0, e1, e2] at HB
    have hbl : (Im.bytesBits a0.data.toList).length ≤ 200000 := by rw [← e0, List.length_append, List.length_append, Im.codeBits_length]; simp only [List.length_cons, List.length_nil]; omega
    clear e0 e1 e2 hlb hcut
    go_upto_region 9 with (go_at_call 34; refine HB.out.mono ?_; rintro o w2 ⟨rfl, hr2⟩)
    clear HB
    obtain ⟨⟨v, l, hrc, hm, hby⟩, hPw⟩ := hr2
    obtain ⟨b, hrun, h3, hout, hpos⟩ := Im.bytes_run (s := l ++ [98, 101, 104, 105, 110, 100]) (most := a0.size) a0.data.toList (hby.at _) (by rw [blen]; exact Nat.le_refl _)
    have hll := hby.len
    have esz : (ByteArray.mk l.toArray).size = l.length := by simp [ByteArray.size]
    have ebs : (⟨l.toArray⟩ ++ ⟨#[98, 101, 104, 105, 110, 100]⟩ : ByteArray).data.toList = l ++ [98, 101, 104, 105, 110, 100] := by rw [str_app]
    rw [← ebs] at hrun
    have H1 := fun w => Lib.hid (one_run a0.size (⟨l.toArray⟩ ++ ⟨#[98, 101, 104, 105, 110, 100]⟩) w b 0 (by omega) (by rw [str_size, esz]; show l.length + 6 ≤ _; omega) hrun)
    unfold OneIn at H1
    have n1 : oneO b 0 = a0.data.toList := by rw [← hout]; exact if_pos ⟨rfl, h3⟩
    have n2 : oneN b 0 = l.length := by
      have : oneN b 0 = b.pos / 8 := if_pos ⟨rfl, h3⟩
      omega
    have n3 : oneE b 0 = 0 := by unfold oneE; rw [if_neg (by simp), if_pos h3]
    simp only [n1, n2, n3, bytes_same] at H1
    have hcv := conv_own hm.out
    obtain ⟨a5, cap5, hv5, _⟩ := hm.out.slice
    subst hv5
    have k0 := hrc.c0
    have K0 : ∀ w', Below w2.heap.size w2 w' → Hid (w'.cell? ⟨P, 0, none⟩ = some (.slice a5 l.length cap5)) := fun w' hb => Lib.hid (hrc.below hb).c0
    have hmb := Lib.hid hm.bel
    have hes : (ByteArray.mk l.toArray).size ≤ 70000 := by rw [esz]; omega
    generalize hee : (ByteArray.mk l.toArray) = es at *
    clear hee esz n1 n2 n3 hll ebs hrun hpos hout h3 hby hm hrc hbl
    generalize l.length = ll at *
    go_wp2_with (first | (go_at_call 27; refine (H1 _).out.mono ?_; rintro o w3 ⟨rfl, hb3⟩; have k0a := (K0 _ hb3).out) | (go_at_call 25; refine (HF _).out.mono ?_; rintro e w' ⟨rfl, hb⟩; have k0b := (K0 _ (belThen hb3 hb)).out))
    go_ret
    exact ⟨rfl, belThen (belThen hmb.out hb3) hb⟩
end Go.Proofs.Ytcjcmlnbchmnnaa
