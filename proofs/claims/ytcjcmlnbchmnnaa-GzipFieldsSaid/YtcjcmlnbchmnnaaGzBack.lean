/- Plain mathematics of layer 10: a member as 'laid' of farrierlaw10 lays it is told; with one byte of its bytes, its sum or its size turned it is not (no program in sight). -/
import Derived.Test.YtcjcmlnbchmnnaaGzBuild
import Derived.Test.YtcjcmlnbchmnnaaGLaid
import Derived.Test.YtcjcmlnbchmnnaaCmTurns
namespace Go.Proofs.Ytcjcmlnbchmnnaa.Gz

theorem headL_ok (nm t : List UInt8) (h : ∀ c ∈ nm, c ≠ 0) (hl : nm.length < 65536) : magP (headL nm ++ t) = .ok (headL nm).length := by
  unfold headL
  by_cases h0 : nm = []
  · rw [if_pos h0]
    have e : headF 0 (31 :: 139 :: 8 :: UInt8.ofNat 0 :: [0, 0, 0, 0, 0, 0]) [] false false = [31, 139, 8, 0, 0, 0, 0, 0, 0, 0] := rfl
    rw [← e]
    exact head_ok 0 [0, 0, 0, 0, 0, 0] [] t false false (by omega) rfl (by decide) (fun c hc => by cases hc) (by simp) (by simp)
  · rw [if_neg h0]
    have e : headF 8 (31 :: 139 :: 8 :: UInt8.ofNat 8 :: [0, 0, 0, 0, 0, 0]) nm true false = [31, 139, 8, 8, 0, 0, 0, 0, 0, 0] ++ (nm ++ [0]) := by
      have e1 : partE 8 nm = [] := rfl
      have e2 : ∀ l, partS 8 l = [] := fun l => rfl
      unfold headF h3
      rw [e1, e2]
      simp [partT]
    rw [← e]
    exact head_ok 8 [0, 0, 0, 0, 0, 0] nm t true false (by omega) rfl hl h (by simp) (by simp)
theorem laid_eq (s nm t : List UInt8) : laidL s nm ++ t = headL nm ++ (Im.blk true s ++ (Cm.putL (Cm.crc 0 s) 4 ++ (Cm.putL s.length 4 ++ t))) := by
  unfold laidL; simp only [List.append_assoc]
theorem laid_len (s nm : List UInt8) : (laidL s nm).length = (headL nm).length + (5 + s.length) + 8 := by
  unfold laidL; rw [List.length_append, List.length_append, List.length_append, Im.blk_length, Cm.putL_length, Cm.putL_length]
theorem back_run (s nm t : List UInt8) (h : ∀ c ∈ nm, c ≠ 0) (hl : nm.length < 65536) (hs : s.length ≤ 65535) : GRun (laidL s nm ++ t) s.length (s, 0, some (laidL s nm).length) := by
  rw [laid_eq, laid_len]
  refine (member_run (headL nm) s _ _ t s.length (fun t => headL_ok nm t h hl) hs (Nat.le_refl _) (Cm.putL_length _ _) (Cm.putL_length _ _)).1 ?_ ?_
  · rw [Cm.getN_putL]; exact Nat.mod_eq_of_lt (Cm.crc_lt _ _)
  · rw [Cm.getN_putL]; exact Nat.mod_eq_of_lt (by have : 256 ^ 4 = 4294967296 := rfl; omega)
theorem set_behind (A B : List UInt8) (i : Nat) (y : UInt8) : (A ++ B).set (A.length + i) y = A ++ B.set i y := by
  rw [List.set_append_right _ _ (by omega), Nat.add_sub_cancel_left]
theorem set_front (A B : List UInt8) (i : Nat) (y : UInt8) (h : i < A.length) : (A ++ B).set i y = A.set i y ++ B := List.set_append_left _ _ h
theorem back_turned (s nm : List UInt8) (h : ∀ c ∈ nm, c ≠ 0) (hl : nm.length < 65536) (hs : s.length ≤ 65535) (i : Nat) (hi : i < s.length + 8) (y : UInt8) (hy : (laidL s nm)[(headL nm).length + 5 + i]? ≠ some y) :
    GRun ((laidL s nm).set ((headL nm).length + 5 + i) y) s.length ([], 101, none) := by
  have hH := fun t => headL_ok nm t h hl
  have hX := Cm.putL_length (Cm.crc 0 s) 4
  have hY := Cm.putL_length s.length 4
  have gX : Cm.getN (Cm.putL (Cm.crc 0 s) 4) = Cm.crc 0 s := by rw [Cm.getN_putL]; exact Nat.mod_eq_of_lt (Cm.crc_lt _ _)
  have gY : Cm.getN (Cm.putL s.length 4) = s.length := by rw [Cm.getN_putL]; exact Nat.mod_eq_of_lt (by have : 256 ^ 4 = 4294967296 := rfl; omega)
  have e0 : laidL s nm = headL nm ++ (Im.blk true s ++ (Cm.putL (Cm.crc 0 s) 4 ++ (Cm.putL s.length 4 ++ []))) := by rw [← laid_eq, List.append_nil]
  have eb : Im.blk true s = [1, UInt8.ofNat s.length, UInt8.ofNat (s.length / 256), UInt8.ofNat (255 - s.length % 256), UInt8.ofNat (255 - s.length / 256)] ++ s := rfl
  have e5 : ([1, UInt8.ofNat s.length, UInt8.ofNat (s.length / 256), UInt8.ofNat (255 - s.length % 256), UInt8.ofNat (255 - s.length / 256)] : List UInt8).length = 5 := rfl
  have hp : (headL nm).length + 5 + i = (headL nm).length + (5 + i) := by omega
  rw [hp] at hy ⊢
  rw [e0, set_behind]
  rw [e0, List.getElem?_append_right (by omega), Nat.add_sub_cancel_left] at hy
  by_cases h1 : i < s.length
  · rw [eb, List.append_assoc, show 5 + i = ([1, UInt8.ofNat s.length, UInt8.ofNat (s.length / 256), UInt8.ofNat (255 - s.length % 256), UInt8.ofNat (255 - s.length / 256)] : List UInt8).length + i from rfl, set_behind, set_front _ _ _ _ h1]
    rw [eb, List.append_assoc, List.getElem?_append_right (by rw [e5]; omega), e5, Nat.add_sub_cancel_left, List.getElem?_append_left h1, List.getElem?_eq_getElem h1] at hy
    have hl2 : (s.set i y).length = s.length := List.length_set
    have hb2 : Im.blk true (s.set i y) = [1, UInt8.ofNat s.length, UInt8.ofNat (s.length / 256), UInt8.ofNat (255 - s.length % 256), UInt8.ofNat (255 - s.length / 256)] ++ s.set i y := by unfold Im.blk; rw [hl2]; rfl
    have := (member_run (headL nm) (s.set i y) _ _ [] s.length hH (by omega) (by omega) hX hY).2 (.inl (by rw [gX]; exact fun q => Cm.crc_one s i y h1 (fun q => hy (by rw [q])) q.symm))
    rw [hb2, List.append_assoc] at this
    exact this
  · have hbl := Im.blk_length true s
    obtain ⟨j, rfl⟩ : ∃ j, i = s.length + j := ⟨i - s.length, by omega⟩
    have hq : 5 + (s.length + j) = (Im.blk true s).length + j := by omega
    rw [hq] at hy ⊢
    rw [set_behind]
    rw [List.getElem?_append_right (by omega), Nat.add_sub_cancel_left] at hy
    by_cases h2 : j < 4
    · rw [set_front _ _ _ _ (by rw [hX]; exact h2)]
      rw [List.getElem?_append_left (by rw [hX]; exact h2), List.getElem?_eq_getElem (by rw [hX]; exact h2)] at hy
      refine (member_run (headL nm) s _ _ [] s.length hH (by omega) (by omega) (by rw [List.length_set]; exact hX) hY).2 (.inl ?_)
      have := getN_set (X := Cm.putL (Cm.crc 0 s) 4) (i := j) (c := y) (by rw [hX]; exact h2) (fun q => hy (by rw [q]))
      rw [gX] at this
      exact this
    · obtain ⟨l, rfl⟩ : ∃ l, j = 4 + l := ⟨j - 4, by omega⟩
      have hq2 : 4 + l = (Cm.putL (Cm.crc 0 s) 4).length + l := by rw [hX]
      rw [hq2] at hy ⊢
      rw [set_behind, set_front _ _ _ _ (by rw [hY]; omega)]
      rw [List.getElem?_append_right (by omega), Nat.add_sub_cancel_left, List.getElem?_append_left (by rw [hY]; omega), List.getElem?_eq_getElem (by rw [hY]; omega)] at hy
      refine (member_run (headL nm) s _ _ [] s.length hH (by omega) (by omega) hX (by rw [List.length_set]; exact hY)).2 (.inr ?_)
      have := getN_set (X := Cm.putL s.length 4) (i := l) (c := y) (by rw [hY]; omega) (fun q => hy (by rw [q]))
      rw [gY] at this
      exact this
theorem flip_ne : ∀ x : Fin 256, ∀ j : Fin 8, x.val ^^^ 2 ^ j.val ≠ x.val := by decide +kernel
end Go.Proofs.Ytcjcmlnbchmnnaa.Gz
