/- the reference's Unhex: the bytes of digits: its contract. -/
import Derived.Test.YthdabijojboehaaRHex
import Derived.Test.YthdabijojboehaaUnhex
import Derived.Test.YthdabijojboehaaOwn
namespace Go.Proofs.Ythdabijojboehaa
open Go.RowKit

/-- a digit's value, unasked -/
def rdv (c : Nat) : Int := if 48 ≤ c ∧ c ≤ 57 then (c : Int) - 48 else (c : Int) - 87
def rdb (a b : UInt8) : UInt8 := UInt8.ofNat ((16 * rdv a.toNat + rdv b.toNat) % 256).toNat
def rb : List UInt8 → List UInt8
  | a :: b :: r => rdb a b :: rb r
  | _ => []
theorem rdv_bd (c : Nat) (h : c < 256) : -87 ≤ rdv c ∧ rdv c ≤ 168 := by unfold rdv; split <;> omega
theorem rdv_undig {c n : Nat} (h : Cm.undig c = some n) : rdv c = n := by
  unfold Cm.undig at h; unfold rdv
  split at h
  · rename_i h1; simp at h; rw [if_pos h1]; omega
  · split at h
    · rename_i h1 h2; simp at h; rw [if_neg h1]; omega
    · simp at h
theorem rb_hex (t : List UInt8) : rb (Cm.hex t) = t := by
  induction t with
  | nil => rfl
  | cons c t ih =>
    have hc := Cm.byte_lt c
    rw [Cm.hex, rb, ih, rdb, rdv_undig (Cm.undig_digit (c.toNat / 16) (by omega)), rdv_undig (Cm.undig_digit (c.toNat % 16) (by omega))]
    have : UInt8.ofNat ((16 * ((c.toNat / 16 : Nat) : Int) + ((c.toNat % 16 : Nat) : Int)) % 256).toNat = c := by apply UInt8.toNat_inj.1; rw [UInt8.toNat_ofNat']; omega
    rw [this]
theorem unhex_rb (l : List UInt8) (h : Cm.hex (rb l) = l) : Cm.unhex l = some (rb l) := by
  have := Cm.unhex_hex (rb l); rw [h] at this; exact this
theorem unhex_rb_none (l : List UInt8) (h : ¬ Cm.hex (rb l) = l) : Cm.unhex l = none := by
  cases hu : Cm.unhex l with
  | none => rfl
  | some t =>
    have hx := Cm.hex_unhex _ _ hu
    have := rb_hex t
    rw [hx] at this
    exact absurd (by rw [this]; exact hx) h
theorem rb_length (l : List UInt8) : 2 * (rb l).length ≤ l.length := by
  induction l using rb.induct with
  | case1 a b r ih => simp [rb]; omega
  | case2 l h =>
    rw [rb]
    · simp
    · exact h
theorem rdb_cast (a b : UInt8) : (16 * rdv a.toNat + rdv b.toNat) % 256 = ((rdb a b).toNat : Int) := by
  unfold rdb; rw [UInt8.toNat_ofNat']; omega

def RelU (a b : UInt8) (n i : Value) : Prop := (i = .int .i64 0 ∧ n = .int .i64 0) ∨ (i = .int .i64 1 ∧ n = .int .i64 (rdv a.toNat)) ∨ (i = .int .i64 2 ∧ n = .int .i64 (16 * rdv a.toNat + rdv b.toNat))
theorem RelU.one {a b : UInt8} {x : Int} (h : x = rdv a.toNat) : RelU a b (.int .i64 x) (.int .i64 1) := .inr (.inl ⟨rfl, by rw [h]⟩)
theorem RelU.two {a b : UInt8} {x : Int} (h : x = 16 * rdv a.toNat + rdv b.toNat) : RelU a b (.int .i64 x) (.int .i64 2) := .inr (.inr ⟨rfl, by rw [h]⟩)
theorem rdv_lo {c : Nat} (h : 48 ≤ (c : Int)) (h' : (c : Int) ≤ 57) : (c : Int) - 48 = rdv c := by unfold rdv; rw [if_pos (by omega)]
theorem rdv_hi {c : Nat} (h : 57 < (c : Int) ∨ (c : Int) < 48) : (c : Int) - 97 + 10 = rdv c := by unfold rdv; rw [if_neg (by omega)]; omega

set_option maxHeartbeats 1000000 in
theorem runhex_any (s : ByteArray) (w : World) (hs : s.size ≤ 70368744177664) :
    Calls Try.prog 16 #[.string s] w fun e w' => e = .returned (unhexV s.data.toList) ∧ Below w.heap.size w w' := by
  obtain ⟨i0, hi, hz0, hz1, hz2⟩ := info_parts info_u8
  go_enter Try.func16, Try.ntmps16
  go_wp2
  go_loopw [4, 5] (fun v i wr => ∃ j k : Nat, ∃ acc : List UInt8, j = 2 * k ∧ j ≤ s.size ∧ i = .int .i64 (j : Int) ∧ rb s.data.toList = acc ++ rb (s.data.toList.drop j) ∧ wr.ownsRow w.heap.size 5 1 v k (bvals acc) ∧ Below w.heap.size w wr) (fun _ i _ => s.size - (intOf i).toNat)
  case atStart => exact ⟨0, 0, [], rfl, by omega, rfl, by simp, World.ownsRow_lit w #[] 0 (Nat.le_refl _) (Nat.zero_le _) rfl, (Below.refl _ _).alloc (Nat.le_refl _) _⟩
  case round =>
    obtain ⟨j, k, acc, hjk, hk, rfl, hun, hown, hbel⟩ := hrel
    have HU := Lib.hid hun
    have HJ := Lib.hid hjk
    by_cases hlt : j + 1 < s.size
    · have hlt0 : j < s.size := by omega
      have hk2 : k ≤ s.size := by omega
      have HD : Hid (s.data.toList.drop j = s[j] :: s[j + 1] :: s.data.toList.drop (j + 2)) := by
        show _ = _
        rw [Cm.drop_cons s j hlt0, Cm.drop_cons s (j + 1) hlt]
      clear hun hjk
      have b0 := rdv_bd _ (Cm.byte_lt s[j])
      have b1 := rdv_bd _ (Cm.byte_lt s[j + 1])
      have c0 := Cm.byte_lt s[j]
      have c1 := Cm.byte_lt s[j + 1]
      have a3 : (0 : Int) ≤ (j : Int) + 1 := by omega
      have a4 : (j : Int) + 1 < (s.size : Int) := by omega
      obtain ⟨wo, rfl⟩ : ∃ wo : World, wo = wr := ⟨_, rfl⟩
      go_wp2
      go_loop [6, 7, 8] (fun n i _ => RelU s[j] s[j + 1] n i) (fun _ i _ => 2 - (intOf i).toNat)
      case atStart => exact .inl ⟨rfl, rfl⟩
      case round =>
        rcases hrel with ⟨rfl, rfl⟩ | ⟨rfl, rfl⟩ | ⟨rfl, rfl⟩
        · rcases (show (48 ≤ (s[j].toNat : Int) ∧ (s[j].toNat : Int) ≤ 57) ∨ 57 < (s[j].toNat : Int) ∨ (s[j].toNat : Int) < 48 by omega) with ⟨h1, h2⟩ | h1 | h1
          · go_wp2
            go_round
            case rel => exact RelU.one (rdv_lo h1 h2)
            case measure => simp [intOf]
          · go_wp2
            go_round
            case rel => exact RelU.one (rdv_hi (.inl h1))
            case measure => simp [intOf]
          · go_wp2
            go_round
            case rel => exact RelU.one (rdv_hi (.inr h1))
            case measure => simp [intOf]
        · rcases (show (48 ≤ (s[j + 1].toNat : Int) ∧ (s[j + 1].toNat : Int) ≤ 57) ∨ 57 < (s[j + 1].toNat : Int) ∨ (s[j + 1].toNat : Int) < 48 by omega) with ⟨h1, h2⟩ | h1 | h1
          · go_wp2
            go_round
            case rel => exact RelU.two (by rw [rdv_lo h1 h2]; omega)
            case measure => simp [intOf]
          · go_wp2
            go_round
            case rel => exact RelU.two (by rw [rdv_hi (.inl h1)]; omega)
            case measure => simp [intOf]
          · go_wp2
            go_round
            case rel => exact RelU.two (by rw [rdv_hi (.inr h1)]; omega)
            case measure => simp [intOf]
        · have HC : Hid ((16 * rdv s[j].toNat + rdv s[j + 1].toNat) % 256 = ((rdb s[j] s[j + 1]).toNat : Int)) := rdb_cast _ _
          have HU2 : Hid (rb s.data.toList = (acc ++ [rdb s[j] s[j + 1]]) ++ rb (s.data.toList.drop (j + 2))) := by
            show _ = _
            rw [HU.out, HD.out, rb]; simp
          generalize rdb s[j] s[j + 1] = c at *
          go_wp2_with (at_builtin; refine wpList_append_own _ rfl _ _ 36 rfl w.heap.size 5 i0 (.int .u8 0) 1 1 Try.underlying36 hi hz0 hz1 hz2 rfl (by decide) _ _ _ rfl (hown.alloc _) ⟨wo.heap.size, 0, none⟩ 1 1 (bvals [c]) rfl rfl ?c1 ?c2 ?c3 ?c4 ?c5 ?_)
          case c1 => intro _ _ h; rw [HC.out]; exact h
          case c2 => exact bvals_one' _
          case c3 => unfold maxLen; omega
          case c4 => omega
          case c5 => have := hbel.size; simp; omega
          intro v' w1 hown' hgrow _
          go_wp2
          go_roundw
          case rel =>
            refine ⟨j + 2, k + 1, acc ++ [c], by have := HJ.out; omega, by omega, by go_num, HU2.out, ?_, (hbel.alloc hbel.size _).grown hgrow (by have := hbel.size; simp; omega) (fun g hg => (hown.lt g hg).1)⟩
            rw [bvals_append]; exact hown'
          case measure => simp [intOf]; omega
    · have hcv := conv_own hown
      have HR : Hid (rb s.data.toList = acc) := by
        show _ = _
        rw [hun]
        have hd : (s.data.toList.drop j).length ≤ 1 := by rw [List.length_drop, Cm.len_list]; omega
        generalize s.data.toList.drop j = d at hd
        rcases d with _ | ⟨a, _ | ⟨b, d⟩⟩
        · simp [rb]
        · simp [rb]
        · simp at hd
      have hal : 2 * acc.length ≤ s.size := by rw [← HR.out, ← Cm.len_list]; exact rb_length _
      have hsz : (ByteArray.mk acc.toArray).size ≤ 70368744177664 := by rw [← Cm.len_list]; simp; omega
      clear hun hjk
      go_wp2_with fail
      refine (rhex_any _ _ hsz).mono ?_
      rintro e w5 ⟨rfl, hb5⟩
      have hbel5 := hbel.trans (hb5.mono hbel.size)
      have hcv5 := conv_own (own_below hown hb5)
      have hd : (ByteArray.mk acc.toArray).data.toList = acc := by simp
      rw [hd]
      clear hcv hd
      by_cases hx : Cm.hex acc = s.data.toList
      · rw [hx]
        have HV : Hid (unhexV s.data.toList = _) := unhexV_some (unhex_rb _ (by rw [HR.out]; exact hx))
        rw [HR.out] at HV
        clear hx
        go_wp2
        go_ret2
        exact ⟨by rw [HV.out]; rfl, hbel5⟩
      · have HV : Hid (unhexV s.data.toList = _) := unhexV_none (unhex_rb_none _ (by rw [HR.out]; exact hx))
        have hne : (Cm.hex acc == s.toList) = false := by
          rw [ByteArray.toList_eq]; simpa using hx
        clear hx
        go_wp2
        go_ret2
        exact ⟨by rw [HV.out]; rfl, hbel5⟩
end Go.Proofs.Ythdabijojboehaa
