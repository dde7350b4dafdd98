/- farrierlaw10.GzipFields: the walk. -/
import Derived.Test.YtcjcmlnbchmnnaaGFixed
import Derived.Test.YtcjcmlnbchmnnaaGzBack
import Derived.BigRegion
namespace Go.Proofs.Ytcjcmlnbchmnnaa
open Go.RowKit

theorem which_bits (k : Nat) (h : k < 32) : (bits BinOp.and IntKind.i64 (k : Int) 4 != 0) = decide (k / 4 % 2 = 1) ∧ (bits BinOp.and IntKind.i64 (k : Int) 8 != 0) = decide (k / 8 % 2 = 1) ∧ (bits BinOp.and IntKind.i64 (k : Int) 16 != 0) = decide (k / 16 % 2 = 1) ∧ (bits BinOp.and IntKind.i64 (k : Int) 2 != 0) = decide (k / 2 % 2 = 1) := by
  have e4 : bits BinOp.and IntKind.i64 (k : Int) 4 = ((k &&& 4 : Nat) : Int) := bits_and_i64 k 4 (by omega) (by omega)
  have e8 : bits BinOp.and IntKind.i64 (k : Int) 8 = ((k &&& 8 : Nat) : Int) := bits_and_i64 k 8 (by omega) (by omega)
  have e16 : bits BinOp.and IntKind.i64 (k : Int) 16 = ((k &&& 16 : Nat) : Int) := bits_and_i64 k 16 (by omega) (by omega)
  have e2 : bits BinOp.and IntKind.i64 (k : Int) 2 = ((k &&& 2 : Nat) : Int) := bits_and_i64 k 2 (by omega) (by omega)
  rw [e4, e8, e16, e2]
  have : ∀ n : Fin 32, (((n.val &&& 4 : Nat) : Int) != 0) = decide (n.val / 4 % 2 = 1) ∧ (((n.val &&& 8 : Nat) : Int) != 0) = decide (n.val / 8 % 2 = 1) ∧ (((n.val &&& 16 : Nat) : Int) != 0) = decide (n.val / 16 % 2 = 1) ∧ (((n.val &&& 2 : Nat) : Int) != 0) = decide (n.val / 2 % 2 = 1) := by decide +kernel
  exact this ⟨k, h⟩
/-- the first ten bytes -/
def ten (k : Nat) : List UInt8 := 31 :: 139 :: 8 :: UInt8.ofNat k :: [1, 2, 3, 4, 5, 6]
def fx (k : Nat) : Bool := decide (k / 8 % 2 = 1)
def fy (k : Nat) : Bool := decide (k / 16 % 2 = 1)
theorem fields_run (k : Nat) (s f : List UInt8) (hk : k < 32) (h : ∀ c ∈ f, c ≠ 0) (hl : f.length < 65536) (hs : s.length ≤ 65535) :
    Gz.GRun (Gz.headF k (ten k) f (fx k) (fy k) ++ (laidL s []).drop 10) s.length (s, 0, some ((Gz.headF k (ten k) f (fx k) (fy k)).length + (5 + s.length) + 8)) := by
  have e : (laidL s []).drop 10 = Im.blk true s ++ (Cm.putL (Cm.crc 0 s) 4 ++ (Cm.putL s.length 4 ++ [])) := by
    have := Gz.laid_eq s [] []
    rw [List.append_nil] at this
    rw [this]
    rfl
  rw [e]
  refine (Gz.member_run _ s _ _ [] s.length (fun t => Gz.head_ok k [1, 2, 3, 4, 5, 6] f t (fx k) (fy k) hk rfl hl h (by unfold fx; simp) (by unfold fy; simp)) hs (Nat.le_refl _) (Cm.putL_length _ _) (Cm.putL_length _ _)).1 ?_ ?_
  · rw [Cm.getN_putL]; exact Nat.mod_eq_of_lt (Cm.crc_lt _ _)
  · rw [Cm.getN_putL]; exact Nat.mod_eq_of_lt (by have : 256 ^ 4 = 4294967296 := rfl; omega)
theorem partT_len (b : Bool) (f : List UInt8) : (Gz.partT b f).length ≤ f.length + 1 := by unfold Gz.partT; split <;> simp
theorem head_len (k : Nat) (f : List UInt8) (x y : Bool) : (Gz.headF k (ten k) f x y).length ≤ 16 + 3 * f.length := by
  unfold Gz.headF Gz.h3
  rw [List.length_append, List.length_append, List.length_append, List.length_append]
  have h1 : (ten k).length = 10 := rfl
  have h2 : (Gz.partE k f).length ≤ 2 + f.length := by
    unfold Gz.partE; split
    · rw [List.length_append, Cm.putL_length]; omega
    · simp
  have h3 : ∀ b, (Gz.partT b f).length ≤ f.length + 1 := fun b => by unfold Gz.partT; split <;> simp
  have h4 : ∀ l, (Gz.partS k l).length ≤ 2 := fun l => by
    unfold Gz.partS; split
    · rw [Cm.putL_length]; omega
    · simp
  have := h3 x
  have := h3 y
  have := h4 (((ten k ++ Gz.partE k f) ++ Gz.partT x f) ++ Gz.partT y f)
  omega
set_option maxHeartbeats 4000000 in
set_option maxRecDepth 50000 in
theorem walk_GzipFields (a0 a1 : ByteArray) (a2 : Int) (_z0 : a0.size ≤ 140737488351232) (_z1 : a1.size ≤ 140737488351232) (_w2 : (Lit.int .i64 a2).wf = true) (w : World) :
    Calls Try.prog 3 #[.string a0, .string a1, .int .i64 a2] w fun e w' => e = .returned (.bool true) ∧ Below w.heap.size w w' := by
  have HF := fun w => Lib.hid (fixed10 w)
  by_cases h5 : 5000 < a0.size
  · have q : decide ((5000 : Int) < (a0.size : Int)) = true := by simp; omega
    go_enter Try.func3, Try.ntmps3
    go_wp2_with (go_at_call 14; refine (HF _).out.mono ?_; rintro e w' ⟨rfl, hb⟩)
    go_ret
    exact ⟨rfl, hb⟩
  have q : decide ((5000 : Int) < (a0.size : Int)) = false := by simp; omega
  by_cases h6 : 200 < a1.size
  · have q2 : decide ((200 : Int) < (a1.size : Int)) = true := by simp; omega
    go_enter Try.func3, Try.ntmps3
    go_wp2_with (go_at_call 14; refine (HF _).out.mono ?_; rintro e w' ⟨rfl, hb⟩)
    go_ret
    exact ⟨rfl, hb⟩
  have q2 : decide ((200 : Int) < (a1.size : Int)) = false := by simp; omega
  go_enter Try.func3, Try.ntmps3
  go_upto_block 0 with fail
  go_cut [] (fun wx => wx = w ∧ ∀ j (hj : j < a1.size), a1[j] ≠ 0)
  case first =>
    go_wp2_with fail
    go_loopw [7] (fun i wr => ∃ k : Nat, i = .int .i64 k ∧ k ≤ a1.size ∧ wr = w ∧ ∀ j (hj : j < a1.size), j < k → a1[j] ≠ 0) (fun i _ => a1.size - (intOf i).toNat)
    case atStart => exact ⟨0, rfl, by omega, rfl, fun j _ hj => by omega⟩
    case round =>
      obtain ⟨k, rfl, hk, rfl, hall⟩ := hrel
      by_cases hlt : k < a1.size
      · have q3 : decide ((k : Int) < (a1.size : Int)) = true := by simp; omega
        have q3' : decide (k < a1.size) = true := by simp; omega
        by_cases hz : a1[k] = 0
        · have q4 : ((a1[k].toNat : Int) == 0) = true := by rw [hz]; rfl
          clear hall hz
          go_wp2_with (go_at_call 14; refine (HF _).out.mono ?_; rintro e w' ⟨rfl, hb⟩)
          go_ret
          exact ⟨rfl, hb⟩
        · have q4 : ((a1[k].toNat : Int) == 0) = false := by
            have : a1[k].toNat ≠ 0 := fun q => hz (UInt8.toNat_inj.1 q)
            simp; omega
          have hall2 := Lib.hid (show ∀ j (hj : j < a1.size), j < k + 1 → a1[j] ≠ 0 from fun j hj hjk => by
            by_cases hjj : j = k
            · subst hjj; exact hz
            · exact hall j hj (by omega))
          clear hall hz
          go_wp2_with fail
          go_roundw
          case rel => exact ⟨k + 1, by go_num, by omega, trivial, hall2.out⟩
          case measure => simp [intOf]; omega
      · have q3 : decide ((k : Int) < (a1.size : Int)) = false := by simp; omega
        have q3' : decide (k < a1.size) = false := by simp; omega
        have hall2 := Lib.hid (show ∀ j (hj : j < a1.size), a1[j] ≠ 0 from fun j hj => hall j hj (by omega))
        clear hall
        go_wp2_with fail
        go_meet
        exact ⟨rfl, hall2.out⟩
  case rest =>
    obtain ⟨rfl, hall⟩ := hcut
    have hnm : ∀ c ∈ a1.data.toList, c ≠ 0 := by
      intro c hc
      obtain ⟨j, hj, rfl⟩ := List.getElem_of_mem hc
      have hj2 : j < a1.size := by rw [blen] at hj; exact hj
      have := hall j hj2
      rw [Array.getElem_toList]
      exact this
    clear hall
    have hl0 := blen a0
    have hl1 := blen a1
    obtain ⟨k, hk, ek⟩ := and_mask a2 31 (by omega)
    have ek' : bits BinOp.and IntKind.i64 a2 31 = (k : Int) := ek
    have hk32 : k < 32 := by omega
    obtain ⟨wb4, wb8, wb16, wb2⟩ := which_bits k hk32
    have hrun := fields_run k a0.data.toList a1.data.toList hk32 hnm (by omega) (by omega)
    have hhl := head_len k a1.data.toList (fx k) (fy k)
    have HL := fun w => Lib.hid (laid_go a0 ⟨#[]⟩ w (by omega) (by decide))
    replace hrun := Lib.hid hrun
    obtain ⟨w0, hw0⟩ : ∃ x : World, x = wc := ⟨wc, rfl⟩
    subst hw0
    have wb8' : (bits BinOp.and IntKind.i64 (k : Int) 8 != 0) = fx k := wb8
    have wb16' : (bits BinOp.and IntKind.i64 (k : Int) 16 != 0) = fy k := wb16
    obtain ⟨t4, ht4⟩ : ∃ b, decide (k / 4 % 2 = 1) = b := ⟨_, rfl⟩
    obtain ⟨t2, ht2⟩ : ∃ b, decide (k / 2 % 2 = 1) = b := ⟨_, rfl⟩
    rw [ht4] at wb4
    rw [ht2] at wb2
    have hM0 := Lib.hid (show Made w0 (w0.alloc (.cells #[.int .u8 31, .int .u8 139, .int .u8 8, .int .u8 (k : Int), .int .u8 1, .int .u8 2, .int .u8 3, .int .u8 4, .int .u8 5, .int .u8 6] 5)) (.slice (some ⟨w0.heap.size, 0, none⟩) 10 10) (ten k) from lit_made w0 #[.int .u8 31, .int .u8 139, .int .u8 8, .int .u8 (k : Int), .int .u8 1, .int .u8 2, .int .u8 3, .int .u8 4, .int .u8 5, .int .u8 6] (ten k) (by
      have : (UInt8.ofNat k).toNat = k := by rw [UInt8.toNat_ofNat']; exact Nat.mod_eq_of_lt (by omega)
      unfold ten; simp [bvals, this]) (by show 10 ≤ 1000; omega))
    clear hnm ek wb8 wb16
    have hlen10 : (ten k).length = 10 := rfl
    generalize hx : fx k = x at *
    generalize hy : fy k = y at *
    generalize hT : ten k = T at *
    replace ht4 := Lib.hid ht4
    replace ht2 := Lib.hid ht2
    replace hT := Lib.hid hT
    replace hx := Lib.hid hx
    replace hy := Lib.hid hy
    rw [hl1] at hhl
    have hf2 : a1.size ≤ 200 := by omega
    clear hk
    go_upto_if 43 with fail
    generalize w0.alloc (.cells #[.int .u8 31, .int .u8 139, .int .u8 8, .int .u8 (k : Int), .int .u8 1, .int .u8 2, .int .u8 3, .int .u8 4, .int .u8 5, .int .u8 6] 5) = wz at *
    generalize Value.slice (some ⟨w0.heap.size, 0, none⟩) 10 10 = v0 at *
    go_cut [9] (fun v wx => Made w0 wx v (T ++ Gz.partE k a1.data.toList))
    case first =>
      cases t4 with
      | true =>
        have hE := Lib.hid (show Gz.partE k a1.data.toList = Cm.putL a1.size 2 ++ a1.data.toList by unfold Gz.partE; rw [if_pos (of_decide_eq_true ht4.out), hl1])
        have HH := Lib.hid (show #[Value.int .u8 (a1.size : Int), .int .u8 0].toList = bvals (Cm.putL a1.size 2) by
          have e1 : (UInt8.ofNat a1.size).toNat = a1.size := by rw [UInt8.toNat_ofNat']; exact Nat.mod_eq_of_lt (by omega)
          have e2 : (UInt8.ofNat (a1.size / 256)).toNat = 0 := by rw [UInt8.toNat_ofNat']; omega
          simp [Cm.putL, bvals, e1, e2])
        have hz := Lib.hid (show (T ++ Cm.putL a1.size 2).length + a1.size ≤ 140737488355328 by rw [List.length_append, Cm.putL_length, hlen10]; omega)
        have hz1 := Lib.hid (show T.length + 2 ≤ 140737488355328 by rw [hlen10]; omega)
        clear hlen10
        go_wp2_with (first | (at_builtin; (refine wpList_litM rfl _ _ rfl w0 _ T rfl _ 2 rfl ?ad ?ae ?af ?ag ?ah ?aj; (case ad => exact hM0.out); (case af => exact HH.out); (case ag => exact rfl); (case ah => exact hz1.out)); intro v2 w2 ho2; replace ho2 := Lib.hid ho2) | (at_builtin; refine wpList_strM rfl _ _ rfl w0 _ ?bl rfl a1 rfl ?bd ?bh ?bj; (case bd => exact ho2.out); (case bh => exact hz.out); intro v3 w3 ho3; replace ho3 := Lib.hid ho3))
        go_meet
        rw [hE.out, ← List.append_assoc]
        exact ho3.out
      | false =>
        have hE := Lib.hid (show Gz.partE k a1.data.toList = [] by unfold Gz.partE; rw [if_neg (of_decide_eq_false ht4.out)])
        clear hlen10
        go_wp2_with fail
        go_meet
        rw [hE.out, List.append_nil]
        exact hM0.out
    case rest =>
      have hME := Lib.hid hcut
      have hEl : (T ++ Gz.partE k a1.data.toList).length ≤ 212 := by
        rw [List.length_append, hlen10]
        unfold Gz.partE
        split
        · rw [List.length_append, Cm.putL_length, hl1]; omega
        · simp
      clear hcut hM0 wb4
      have hH3 := Lib.hid (show Gz.h3 k T a1.data.toList x y = ((T ++ Gz.partE k a1.data.toList) ++ Gz.partT x a1.data.toList) ++ Gz.partT y a1.data.toList from rfl)
      generalize T ++ Gz.partE k a1.data.toList = E at *
      obtain ⟨wa, hwa⟩ : ∃ z : World, z = wc := ⟨wc, rfl⟩
      subst hwa
      go_upto_block 2 with fail
      go_cut [9] (fun v wx => Made w0 wx v (Gz.h3 k T a1.data.toList x y))
      case first =>
        have hp : ∀ b : Bool, b = true → Gz.partT b a1.data.toList = (a1 ++ ⟨#[0]⟩ : ByteArray).data.toList := fun b hb => by rw [hb, str_app]; rfl
        have hpn : ∀ b : Bool, b = false → Gz.partT b a1.data.toList = [] := fun b hb => by rw [hb]; rfl
        have hz1 := Lib.hid (show E.length + (a1 ++ ⟨#[0]⟩ : ByteArray).size ≤ 140737488355328 by rw [str_size]; show E.length + (a1.size + 1) ≤ _; omega)
        have hz2 := Lib.hid (show (E ++ Gz.partT x a1.data.toList).length + (a1 ++ ⟨#[0]⟩ : ByteArray).size ≤ 140737488355328 by
          rw [str_size, List.length_append]
          have := partT_len x a1.data.toList
          rw [hl1] at this
          show E.length + _ + (a1.size + 1) ≤ _; omega)
        go_wp2_with fail
        go_loopw [9, 10] (fun v i wr => (i = .int .i64 8 ∧ Made w0 wr v E) ∨ (i = .int .i64 16 ∧ Made w0 wr v (E ++ Gz.partT x a1.data.toList)) ∨ (i = .int .i64 32 ∧ Made w0 wr v ((E ++ Gz.partT x a1.data.toList) ++ Gz.partT y a1.data.toList))) (fun _ i _ => 40 - (intOf i).toNat)
        case atStart => exact .inl ⟨rfl, hME.out⟩
        case round =>
          clear hME
          rcases hrel with ⟨rfl, hown⟩ | ⟨rfl, hown⟩ | ⟨rfl, hown⟩
          · have HO := Lib.hid hown
            clear hown
            cases x with
            | true =>
              have e1 := Lib.hid (hp true rfl)
              clear hp hpn
              go_wp2_with (at_builtin; refine wpList_strM rfl _ _ rfl w0 _ E rfl (a1 ++ ⟨#[0]⟩) rfl ?cad ?cah ?caj; (case cad => exact HO.out); (case cah => exact hz1.out); intro v3 w3 ho3; replace ho3 := Lib.hid ho3)
              go_roundw
              case rel => exact .inr (.inl ⟨rfl, by rw [e1.out]; exact ho3.out⟩)
              case measure => simp [intOf]
            | false =>
              have e1 := Lib.hid (hpn false rfl)
              clear hp hpn
              go_wp2_with fail
              go_roundw
              case rel => exact .inr (.inl ⟨rfl, by rw [e1.out, List.append_nil]; exact HO.out⟩)
              case measure => simp [intOf]
          · have HO := Lib.hid hown
            clear hown
            cases y with
            | true =>
              have e1 := Lib.hid (hp true rfl)
              clear hp hpn
              generalize E ++ Gz.partT x a1.data.toList = E2 at *
              go_wp2_with (at_builtin; refine wpList_strM rfl _ _ rfl w0 _ E2 rfl (a1 ++ ⟨#[0]⟩) rfl ?cbd ?cbh ?cbj; (case cbd => exact HO.out); (case cbh => exact hz2.out); intro v3 w3 ho3; replace ho3 := Lib.hid ho3)
              go_roundw
              case rel => exact .inr (.inr ⟨rfl, by rw [e1.out]; exact ho3.out⟩)
              case measure => simp [intOf]
            | false =>
              have e1 := Lib.hid (hpn false rfl)
              clear hp hpn
              go_wp2_with fail
              go_roundw
              case rel => exact .inr (.inr ⟨rfl, by rw [e1.out, List.append_nil]; exact HO.out⟩)
              case measure => simp [intOf]
          · have HO := Lib.hid hown
            clear hown hp hpn
            go_wp2_with fail
            go_meet
            rw [hH3.out]
            exact HO.out
      case rest =>
        have hM3 := Lib.hid hcut
        have hHF := Lib.hid (show Gz.headF k T a1.data.toList x y = Gz.h3 k T a1.data.toList x y ++ Gz.partS k (Gz.h3 k T a1.data.toList x y) from rfl)
        have h3l : (Gz.h3 k T a1.data.toList x y).length ≤ 700 := by
          have := hHF.out
          rw [this, List.length_append] at hhl
          omega
        clear hME hcut hH3 hEl wb8' wb16'
        generalize Gz.h3 k T a1.data.toList x y = H3 at *
        obtain ⟨wb, hwb⟩ : ∃ z : World, z = wc := ⟨wc, rfl⟩
        subst hwb
        go_upto_if 67 with fail
        go_cut [9] (fun v wx => Made w0 wx v (Gz.headF k T a1.data.toList x y))
        case first =>
          cases t2 with
          | true =>
            have hS := Lib.hid (show Gz.partS k H3 = Cm.putL (Cm.crc 0 H3 % 65536) 2 by unfold Gz.partS; rw [if_pos (of_decide_eq_true ht2.out)])
            have hcv := conv_own hM3.out.out
            have esz : (ByteArray.mk H3.toArray).size = H3.length := by simp [ByteArray.size]
            have HC := fun w => Lib.hid (rcrc_any 0 ⟨H3.toArray⟩ w (by omega) (by rw [esz]; unfold maxLen; omega))
            have eLL : (ByteArray.mk H3.toArray).data.toList = H3 := rfl
            rw [show ((0 : Nat) : Int) = 0 from rfl, eLL] at HC
            have hcl := Cm.crc_lt 0 H3
            generalize hcr : Cm.crc 0 H3 = cr at *
            have HH := Lib.hid (show #[Value.int .u8 ((cr : Int) % 256), .int .u8 ((cr : Int) / 2 ^ 8 % 256)].toList = bvals (Cm.putL (cr % 65536) 2) by
              have e1 : (UInt8.ofNat (cr % 65536)).toNat = cr % 256 := by rw [UInt8.toNat_ofNat']; omega
              have e2 : (UInt8.ofNat (cr % 65536 / 256)).toNat = cr / 256 % 256 := by rw [UInt8.toNat_ofNat']; omega
              simp [Cm.putL, bvals, e1, e2])
            have hz := Lib.hid (show H3.length + 2 ≤ 140737488355328 by omega)
            clear esz eLL hcr
            go_wp2_with (first | (go_at_call 15; refine (HC _).out.mono ?_; rintro o w' ⟨rfl, rfl⟩) | (at_builtin; (refine wpList_litM rfl _ _ rfl w0 _ H3 rfl _ 2 rfl ?dd ?de ?df ?dg ?dh ?dj; (case dd => exact hM3.out); (case df => exact HH.out); (case dg => exact rfl); (case dh => exact hz.out)); intro v2 w2 ho2; replace ho2 := Lib.hid ho2))
            go_meet
            rw [hHF.out, hS.out]
            exact ho2.out
          | false =>
            have hS := Lib.hid (show Gz.partS k H3 = [] by unfold Gz.partS; rw [if_neg (of_decide_eq_false ht2.out)])
            go_wp2_with fail
            go_meet
            rw [hHF.out, hS.out, List.append_nil]
            exact hM3.out
        case rest =>
          clear hM3 hHF h3l ht2 ht4 hT hx hy wb2
          generalize Gz.headF k T a1.data.toList x y = H at *
          obtain ⟨wc2, hwc2⟩ : ∃ z : World, z = wc := ⟨wc, rfl⟩
          subst hwc2
          have hll := Gz.laid_len a0.data.toList []
          have hhL : (headL ([] : List UInt8)).length = 10 := rfl
          rw [hhL, hl0] at hll
          have hr := hrun.out
          have HL2 : ∀ w, Hid (Calls Try.prog 16 #[.string a0, .string ⟨#[]⟩] w fun o w' => o = .returned (.string ⟨(laidL a0.data.toList []).toArray⟩) ∧ Below w.heap.size w w') := HL
          clear HL
          have hMs : (ByteArray.mk (laidL a0.data.toList []).toArray).size = 10 + (5 + a0.size) + 8 := by rw [← hll]; simp [ByteArray.size]
          have eb : (⟨H.toArray⟩ ++ (ByteArray.mk (laidL a0.data.toList []).toArray).extract 10 (ByteArray.mk (laidL a0.data.toList []).toArray).size : ByteArray).data.toList = H ++ (laidL a0.data.toList []).drop 10 := by rw [str_app, drop_list]
          rw [← eb, hl0] at hr
          generalize (ByteArray.mk (laidL a0.data.toList []).toArray) = mb at *
          have hHs : (ByteArray.mk H.toArray).size = H.length := by simp [ByteArray.size]
          have hxs : (mb.extract 10 mb.size).size = mb.size - 10 := ext_size' _ _ _ (Nat.le_refl _)
          have H1 := fun w => Lib.hid (gone_run a0.size (⟨H.toArray⟩ ++ mb.extract 10 mb.size) w a0.data.toList 0 (some (H.length + (5 + a0.size) + 8)) (by omega) (by rw [str_size, hHs, hxs]; omega) hr)
          unfold GOneIn at H1
          have g1 : gO a0.data.toList 0 (some (H.length + (5 + a0.size) + 8)) = a0.data.toList := rfl
          have g2 : gN 0 (some (H.length + (5 + a0.size) + 8)) = H.length + (5 + a0.size) + 8 := rfl
          have g3 : gE 0 (some (H.length + (5 + a0.size) + 8)) = 0 := rfl
          have g4 : (⟨a0.data.toList.toArray⟩ : ByteArray) = a0 := rfl
          simp only [g1, g2, g3, g4] at H1
          obtain ⟨a5, cap5, hv5, _⟩ := hcut.out.slice
          subst hv5
          have hcv := fun w' hb => Lib.hid (conv_own (hcut.below (w' := w') hb).out)
          have hmb := Lib.hid hcut.bel
          have hHs2 : (ByteArray.mk H.toArray).size ≤ 20000 := by omega
          have hms2 : mb.size ≤ 20000 := by omega
          have hms3 : 10 ≤ mb.size := by omega
          obtain ⟨nn, hnn⟩ : ∃ n, n = H.length + (5 + a0.size) + 8 := ⟨_, rfl⟩
          rw [← hnn] at H1
          generalize (ByteArray.mk H.toArray) = hb5 at *
          generalize H.length = hl at *
          have f9 : ((hl : Int) + (mb.size : Int) - 10) = (nn : Int) := by omega
          have f8 : hl ≤ 20000 := by omega
          clear eb hr g1 g2 g3 g4 hll hhL hhl hcut hrun hnn hHs
          replace hMs := Lib.hid hMs
          replace hxs2 := hxs
          go_upto_region 22 with (go_at_call 16; refine (HL2 _).out.mono ?_; rintro o w1 ⟨rfl, hb1⟩; have hcv1 := (hcv w1.drew (hb1.drew)).out)
          clear hcv
          go_region_with (go_at_call 17; refine (H1 _).out.mono ?_; rintro o w2 ⟨rfl, hb2⟩)
          all_goals
            have hb12 := belThen hb1.drew hb2
            clear hcv1 hb2
            go_wp2_with (go_at_call 14; refine (HF _).out.mono ?_; rintro e w' ⟨rfl, hb⟩)
            go_ret
            exact ⟨rfl, belThen (belThen hmb.out hb12) hb⟩
end Go.Proofs.Ytcjcmlnbchmnnaa
