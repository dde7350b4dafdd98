/- Put and Get, both texts, at every input, in one spelling each. -/
import Derived.Test.YthdabijojboehaaGet
import Derived.Test.YthdabijojboehaaRGet
import Derived.Test.YthdabijojboehaaPut
import Derived.Test.YthdabijojboehaaRPut
namespace Go.Proofs.Ythdabijojboehaa
open Go.RowKit

def putOk (n b : Int) : Prop := 1 ≤ b ∧ b ≤ 7 ∧ 0 ≤ n ∧ n < 256 ^ b.toNat
instance (n b : Int) : Decidable (putOk n b) := by unfold putOk; infer_instance
def putS (n b : Int) : ByteArray := if putOk n b then ⟨(Cm.putL n.toNat b.toNat).toArray⟩ else ⟨#[]⟩
def putE (n b : Int) : Int := if putOk n b then 0 else 20
theorem pow_cast (c : Nat) : ((256 ^ c : Nat) : Int) = 256 ^ c := by simp
theorem put_all (n b : Int) (w : World) (hn0 : -9223372036854775808 ≤ n) (hn1 : n ≤ 9223372036854775807) :
    Calls Try.prog 10 #[.int .i64 n, .int .i64 b] w fun e w' => e = .returned (.tuple #[.string (putS n b), .int .i64 (putE n b)]) ∧ Below w.heap.size w w' := by
  by_cases h : putOk n b
  · rw [putS, putE, if_pos h, if_pos h]
    obtain ⟨h1, h2, h3, h4⟩ := h
    obtain ⟨m, rfl⟩ := Int.eq_ofNat_of_zero_le h3
    obtain ⟨c, rfl⟩ := Int.eq_ofNat_of_zero_le (show 0 ≤ b by omega)
    simp only [Int.toNat_natCast] at h4 ⊢
    exact put_yes m c w (by omega) (by omega) (by rw [← pow_cast] at h4; omega)
  · rw [putS, putE, if_neg h, if_neg h]
    refine (put_no n b w hn0 hn1 ?_).mono fun e w' ⟨he, hw⟩ => ⟨he, hw ▸ Below.refl _ _⟩
    unfold putOk at h
    omega
theorem rput_all (n b : Int) (w : World) (hn1 : n ≤ 9223372036854775807) :
    Calls Try.prog 11 #[.int .i64 n, .int .i64 b] w fun e w' => e = .returned (.tuple #[.string (putS n b), .int .i64 (putE n b)]) ∧ Below w.heap.size w w' := by
  by_cases h : 1 ≤ b ∧ b ≤ 7 ∧ 0 ≤ n
  · obtain ⟨h1, h2, h3⟩ := h
    obtain ⟨m, rfl⟩ := Int.eq_ofNat_of_zero_le h3
    obtain ⟨c, rfl⟩ := Int.eq_ofNat_of_zero_le (show 0 ≤ b by omega)
    refine (rput_in m c w (by omega) (by omega) (by omega)).mono fun e w' ⟨he, hw⟩ => ⟨?_, hw⟩
    rw [he]
    by_cases hm : m < 256 ^ c
    · have hok : putOk (m : Int) (c : Int) := ⟨h1, h2, h3, by rw [Int.toNat_natCast, ← pow_cast]; omega⟩
      rw [putV_yes m c hm, putS, putE, if_pos hok, if_pos hok]; rfl
    · have hok : ¬ putOk (m : Int) (c : Int) := by
        rintro ⟨_, _, _, h4⟩; rw [Int.toNat_natCast, ← pow_cast] at h4; omega
      rw [putV_no m c (by omega), putS, putE, if_neg hok, if_neg hok]
  · have hok : ¬ putOk n b := fun ⟨a1, a2, a3, _⟩ => h ⟨a1, a2, a3⟩
    rw [putS, putE, if_neg hok, if_neg hok]
    exact (rput_out n b w (by omega)).mono fun e w' ⟨he, hw⟩ => ⟨he, hw ▸ Below.refl _ _⟩

def getOk (s : ByteArray) : Prop := 1 ≤ s.size ∧ s.size ≤ 7
instance (s : ByteArray) : Decidable (getOk s) := by unfold getOk; infer_instance
def getI (s : ByteArray) : Int := if getOk s then (Cm.getN s.data.toList : Nat) else 0
def getE (s : ByteArray) : Int := if getOk s then 0 else 20
theorem get_all (s : ByteArray) (w : World) (hm : s.size ≤ maxLen) :
    Calls Try.prog 12 #[.string s] w fun e w' => e = .returned (.tuple #[.int .i64 (getI s), .int .i64 (getE s)]) ∧ w = w' := by
  by_cases h : getOk s
  · rw [getI, getE, if_pos h, if_pos h]; exact get_yes s w h.1 h.2
  · rw [getI, getE, if_neg h, if_neg h]; exact get_no s w (by unfold getOk at h; omega) hm
theorem rget_all (s : ByteArray) (w : World) (hm : s.size ≤ maxLen) :
    Calls Try.prog 13 #[.string s] w fun e w' => e = .returned (.tuple #[.int .i64 (getI s), .int .i64 (getE s)]) ∧ w = w' := by
  by_cases h : getOk s
  · rw [getI, getE, if_pos h, if_pos h]; exact rget_yes s w h.1 h.2
  · rw [getI, getE, if_neg h, if_neg h]; exact rget_no s w (by unfold getOk at h; omega) hm
end Go.Proofs.Ythdabijojboehaa
