/- Plain: the runs of the streams that 'fixed' of farrierlaw09 asks (no program in sight). -/
import Derived.Test.YtcjcmlnbchmnnaaImStores
import Derived.Test.YtcjcmlnbchmnnaaImFixed2
namespace Go.Proofs.Ytcjcmlnbchmnnaa.Im

theorem at_of {s : List UInt8} {p : Nat} {bits : List Nat} (h : ∀ k, k < bits.length → Hm.bitOf s (p + k) = bits.getD k 0 ∧ (p + k) / 8 < s.length) : At s p bits := fun k x hk => by
  obtain ⟨hlt, e⟩ := List.getElem?_eq_some_iff.1 hk
  have := h k hlt
  rw [List.getD_eq_getElem?_getD, hk] at this
  exact this
def fxS : List UInt8 := [1, 2, 0, 253, 255, 97, 98, 120]
def fxEnd : St := { pos := 56, state := 3, last := true, left := 0, lit := [], dist := [], out := [97, 98] }
theorem fx_all (most : Nat) (h : 2 ≤ most) : Run fxS most start fxEnd 0 := enc_run most [120] [[97, 98]] [] start (by simp) rfl rfl (by simp) h
theorem fx_less : ∃ c, Run fxS 1 start c 93 := ((fx_all 2 (Nat.le_refl _)).less rfl rfl (k := 1) (Nat.zero_le _) (Nat.zero_le _) (Nat.zero_le _)).2 (by decide)
theorem fx_lit : ∃ b, Run [75, 4, 0] 9 start b 0 ∧ b.state = 3 ∧ b.out = [97] ∧ b.pos = 24 := by
  have hl : litBits 97 = codeBits 145 8 := by unfold litBits; rw [fixLit_code 97 (by omega), fixLit_len 97 (by omega)]; rfl
  have hb : bytesBits [97] = [1, 1, 0, 1, 0, 0, 1, 0, 0, 0, 1, 0, 0, 0, 0, 0, 0, 0] := by
    unfold bytesBits
    rw [List.flatMap_cons, List.flatMap_nil, show (97 : UInt8).toNat = 97 from rfl, hl]
    decide
  obtain ⟨b, h1, h2, h3, h4⟩ := bytes_run (s := [75, 4, 0]) (most := 9) [97] (by rw [hb]; exact at_of (by decide)) (by decide)
  refine ⟨b, h1, h2, h3, ?_⟩
  rw [h4, hb]
  rfl
theorem fx_form : Run [7] 9 start start 90 := .stop (by simp [start]) rfl
def fxHalf : St := { pos := 48, state := 1, last := true, left := 1, lit := [], dist := [], out := [97] }
theorem fx_half : Run [1, 2, 0, 253, 255, 97] 9 start fxHalf 0 :=
  .step (by simp [start]) (a' := { pos := 40, state := 1, last := true, left := 2, lit := [], dist := [], out := [] }) (by kernel_rfl) (.step (by simp) (a' := fxHalf) (by kernel_rfl) (.stop (by simp [fxHalf]) (by kernel_rfl)))
end Go.Proofs.Ytcjcmlnbchmnnaa.Im
