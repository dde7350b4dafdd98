/- farrierref10.Head: its contract. · farrierref10.Run: its contract. -/
import Derived.Test.YtcjcmlnbchmnnaaGd
import Derived.Test.YtcjcmlnbchmnnaaRCrc
import Derived.Test.YtcjcmlnbchmnnaaISt
import Derived.BigQuiet
import Derived.IntWalk
import Derived.Deep.DeepCutAuto
import Derived.Deep.CutBlock
import Derived.Test.YtcjcmlnbchmnnaaRGet
import Derived.Test.YtcjcmlnbchmnnaaXE
import Derived.Test.YtcjcmlnbchmnnaaGHist
/-! ### RHead -/
/-! ### plain mathematics: where a text ends (no program in sight) -/
namespace Go.Proofs.Ytcjcmlnbchmnnaa.Gz

theorem nought_some : ∀ (l : List UInt8) (j : Nat), j < l.length → l.getD j 0 = 0 → (∀ i, i < j → l.getD i 0 ≠ 0) → nought l = some j
  | [], _, h, _, _ => by simp at h
  | c :: l, 0, _, h, _ => by unfold nought; rw [if_pos (show c = 0 from h)]
  | c :: l, j + 1, hj, h, hall => by
    unfold nought
    rw [if_neg (show ¬ c = 0 from hall 0 (Nat.succ_pos _)), nought_some l j (by simpa using hj) h fun i hi => hall (i + 1) (by omega)]; rfl
theorem nought_none : ∀ (l : List UInt8), (∀ i, i < l.length → l.getD i 0 ≠ 0) → nought l = none
  | [], _ => rfl
  | c :: l, hall => by
    unfold nought
    rw [if_neg (show ¬ c = 0 from hall 0 (by simp)), nought_none l fun i hi => hall (i + 1) (by simpa using hi)]; rfl
theorem getD_drop (s : List UInt8) (p i : Nat) : (s.drop p).getD i 0 = s.getD (p + i) 0 := by
  rw [List.getD_eq_getElem?_getD, List.getD_eq_getElem?_getD, List.getElem?_drop]
theorem textP_some {s : List UInt8} {p j : Nat} (hp : p ≤ j) (hj : j < s.length) (h0 : s.getD j 0 = 0) (hall : ∀ i, p ≤ i → i < j → s.getD i 0 ≠ 0) : textP s p = some (j + 1) := by
  unfold textP
  rw [nought_some (s.drop p) (j - p) (by rw [List.length_drop]; omega) (by rw [getD_drop, show p + (j - p) = j by omega]; exact h0) fun i hi => by rw [getD_drop]; exact hall _ (by omega) (by omega)]
  show some (p + (j - p) + 1) = _
  congr 1; omega
theorem textP_none {s : List UInt8} {p : Nat} (hall : ∀ i, p ≤ i → i < s.length → s.getD i 0 ≠ 0) : textP s p = none := by
  unfold textP
  rw [nought_none (s.drop p) fun i hi => by rw [List.length_drop] at hi; rw [getD_drop]; exact hall _ (by omega) (by omega)]; rfl
theorem nAt_two {s : List UInt8} {p : Nat} (h : p + 2 ≤ s.length) : nAt 2 s p = (s.getD p 0).toNat + 256 * (s.getD (p + 1) 0).toNat := by
  unfold nAt
  have h0 : p < s.length := by omega
  have h1 : p + 1 < s.length := by omega
  rw [List.drop_eq_getElem_cons h0, List.drop_eq_getElem_cons h1, List.take_succ_cons, List.take_succ_cons, List.take_zero]
  rw [List.getD_eq_getElem?_getD, List.getD_eq_getElem?_getD, List.getElem?_eq_getElem h0, List.getElem?_eq_getElem h1]
  simp [Cm.getN]
/-- the first three bytes -/
def fst3 (i : Nat) : UInt8 := if i = 0 then 31 else if i = 1 then 139 else 8
theorem fst3_odd {s : List UInt8} {i : Nat} (hi : i < 3) (hl : i < s.length) (h : s.getD i 0 ≠ fst3 i) : magP s = .bad 100 := by
  unfold magP
  rw [if_pos]
  unfold Odd
  rcases (by omega : i = 0 ∨ i = 1 ∨ i = 2) with rfl | rfl | rfl
  · exact Or.inl ⟨by omega, h⟩
  · exact Or.inr (Or.inl ⟨by omega, h⟩)
  · exact Or.inr (Or.inr (Or.inl ⟨by omega, h⟩))
theorem flag_odd {s : List UInt8} (hl : 3 < s.length) (h : 32 ≤ (s.getD 3 0).toNat) : magP s = .bad 100 := by
  unfold magP
  rw [if_pos (show Odd s from Or.inr (Or.inr (Or.inr ⟨by omega, h⟩)))]
theorem mag_even {s : List UInt8} (h3 : ∀ j, j < 3 → j < s.length → s.getD j 0 = fst3 j) (h : ¬ (3 < s.length ∧ 32 ≤ (s.getD 3 0).toNat)) : magP s = if s.length < 10 then .more else extP (s.getD 3 0).toNat s 10 := by
  unfold magP
  rw [if_neg]
  rintro (⟨q, q2⟩ | ⟨q, q2⟩ | ⟨q, q2⟩ | ⟨q, q2⟩)
  · exact q2 (h3 0 (by omega) (by omega))
  · exact q2 (h3 1 (by omega) (by omega))
  · exact q2 (h3 2 (by omega) (by omega))
  · exact h ⟨by omega, q2⟩
/-- what a head has come to, so far: too far, or a stage -/
def At (s : List UInt8) (k fl p : Nat) : Prop := (s.length < p ∧ magP s = .more) ∨ (p ≤ s.length ∧ magP s = stg k fl s p)
theorem At.ext {s : List UInt8} {fl n : Nat} (h : magP s = extP fl s 10) (h4 : fl / 4 % 2 = 1) (hl : 12 ≤ s.length) (hn : nAt 2 s 10 = n) : At s 2 fl (12 + n) := by
  unfold extP at h
  rw [if_pos h4, if_neg (by omega), hn] at h
  by_cases q : s.length < 12 + n
  · rw [if_pos (by omega)] at h; exact Or.inl ⟨q, h⟩
  · rw [if_neg (by omega)] at h; exact Or.inr ⟨by omega, h⟩
theorem ext_more {s : List UInt8} {fl : Nat} (h : magP s = extP fl s 10) (h4 : fl / 4 % 2 = 1) (hl : s.length < 12) : magP s = .more := by
  unfold extP at h
  rw [if_pos h4, if_pos (by omega)] at h; exact h
theorem At.noext {s : List UInt8} {fl : Nat} (h : magP s = extP fl s 10) (h4 : fl / 4 % 2 ≠ 1) (hl : 10 ≤ s.length) : At s 2 fl 10 := by
  unfold extP at h
  rw [if_neg h4] at h; exact Or.inr ⟨hl, h⟩
theorem At.skip2 {s : List UInt8} {fl p : Nat} (h : At s 2 fl p) (h4 : fl / 8 % 2 ≠ 1) : At s 3 fl p := by
  rcases h with h | ⟨h, h2⟩
  · exact Or.inl h
  · refine Or.inr ⟨h, h2.trans ?_⟩
    show namP fl s p = _
    unfold namP; rw [if_neg h4]; rfl
theorem At.skip3 {s : List UInt8} {fl p : Nat} (h : At s 3 fl p) (h4 : fl / 16 % 2 ≠ 1) : At s 4 fl p := by
  rcases h with h | ⟨h, h2⟩
  · exact Or.inl h
  · refine Or.inr ⟨h, h2.trans ?_⟩
    show comP fl s p = _
    unfold comP; rw [if_neg h4]; rfl
theorem At.text2 {s : List UInt8} {fl p j : Nat} (h : At s 2 fl p) (h4 : fl / 8 % 2 = 1) (hp : p ≤ j) (hj : j < s.length) (h0 : s.getD j 0 = 0) (hall : ∀ i, p ≤ i → i < j → s.getD i 0 ≠ 0) : At s 3 fl (j + 1) := by
  rcases h with ⟨h, _⟩ | ⟨h, h2⟩
  · omega
  · refine Or.inr ⟨by omega, h2.trans ?_⟩
    show namP fl s p = _
    unfold namP; rw [if_pos h4, textP_some hp hj h0 hall]; rfl
theorem At.text3 {s : List UInt8} {fl p j : Nat} (h : At s 3 fl p) (h4 : fl / 16 % 2 = 1) (hp : p ≤ j) (hj : j < s.length) (h0 : s.getD j 0 = 0) (hall : ∀ i, p ≤ i → i < j → s.getD i 0 ≠ 0) : At s 4 fl (j + 1) := by
  rcases h with ⟨h, _⟩ | ⟨h, h2⟩
  · omega
  · refine Or.inr ⟨by omega, h2.trans ?_⟩
    show comP fl s p = _
    unfold comP; rw [if_pos h4, textP_some hp hj h0 hall]; rfl
theorem At.none2 {s : List UInt8} {fl p j : Nat} (h : At s 2 fl p) (h4 : fl / 8 % 2 = 1) (hj : s.length ≤ j) (hall : ∀ i, p ≤ i → i < s.length → s.getD i 0 ≠ 0) : At s 3 fl (j + 1) := by
  refine Or.inl ⟨by omega, ?_⟩
  rcases h with ⟨_, h⟩ | ⟨_, h⟩
  · exact h
  · rw [h]
    show namP fl s p = _
    unfold namP; rw [if_pos h4, textP_none hall]
theorem At.none3 {s : List UInt8} {fl p j : Nat} (h : At s 3 fl p) (h4 : fl / 16 % 2 = 1) (hj : s.length ≤ j) (hall : ∀ i, p ≤ i → i < s.length → s.getD i 0 ≠ 0) : At s 4 fl (j + 1) := by
  refine Or.inl ⟨by omega, ?_⟩
  rcases h with ⟨_, h⟩ | ⟨_, h⟩
  · exact h
  · rw [h]
    show comP fl s p = _
    unfold comP; rw [if_pos h4, textP_none hall]
theorem At.far {s : List UInt8} {k fl p : Nat} (h : At s k fl p) (hp : s.length < p) : magP s = .more := by
  rcases h with ⟨_, h⟩ | ⟨h, _⟩
  · exact h
  · omega
theorem At.sum {s : List UInt8} {fl p : Nat} (h : At s 4 fl p) (hp : p ≤ s.length) : magP s = sumP fl s p := by
  rcases h with ⟨h, _⟩ | ⟨_, h⟩
  · omega
  · exact h
end Go.Proofs.Ytcjcmlnbchmnnaa.Gz
namespace Go.Proofs.Ytcjcmlnbchmnnaa
open Go.RowKit

def hdAns (p : Int) (b : Bool) (e : Int) : Ending := .returned (.tuple #[.int .i64 p, .bool b, .int .i64 e])
def HdIn (s : List UInt8) (w : World) (o : Ending) (w' : World) : Prop :=
  (match Gz.magP s with
    | .more => o = hdAns 0 false 0
    | .bad e => o = hdAns 0 false e
    | .ok p => o = hdAns (p : Int) true 0) ∧ Below w.heap.size w w'
theorem HdIn.more {s : List UInt8} {w w' : World} (h : Gz.magP s = .more) (hb : Below w.heap.size w w') : HdIn s w (.returned (.tuple #[.int .i64 0, .bool false, .int .i64 0])) w' := by
  unfold HdIn; rw [h]; exact ⟨rfl, hb⟩
theorem HdIn.bad {s : List UInt8} {w w' : World} {e : Int} (h : Gz.magP s = .bad e) (hb : Below w.heap.size w w') : HdIn s w (.returned (.tuple #[.int .i64 0, .bool false, .int .i64 e])) w' := by
  unfold HdIn; rw [h]; exact ⟨rfl, hb⟩
theorem HdIn.ok {s : List UInt8} {w w' : World} {p : Nat} (h : Gz.magP s = .ok p) (hb : Below w.heap.size w w') : HdIn s w (.returned (.tuple #[.int .i64 (p : Int), .bool true, .int .i64 0])) w' := by
  unfold HdIn; rw [h]; exact ⟨rfl, hb⟩
theorem byteBytes : Try.prog.elem 23 = 5 := by kernel_rfl
theorem sizeByte (w : World) : (sizeOf 5).run Try.prog w = .ok 1 w := by kernel_rfl
theorem index_byte (g n cap j : Nat) (h : j < n) (w : World) : (Instr.indexAt 23 (.slice (some ⟨g, 0, none⟩) n cap) (.int .i64 (j : Int))).run Try.prog w = .ok (.pointer (some ⟨g, j, none⟩)) w := by
  rw [run_indexAt_slice _ _ _ _ _ _ _ (by rw [byteBytes]; exact Try.underlying23), if_pos ⟨by omega, by omega⟩, byteBytes, sizeByte]
  simp [Result.andThen, Addr.add]
  exact fun e => e.symm
theorem byte_at (s : ByteArray) (i : Nat) (h : i < s.size) : s.data.toList.getD i 0 = s[i] := by
  rw [List.getD_eq_getElem?_getD, List.getElem?_eq_getElem (by rw [Array.length_toList]; exact h)]; rfl
theorem fst_cell {w : World} {g i : Nat} (h : w.heap[g]? = some (.cells #[.int .u8 31, .int .u8 139, .int .u8 8] 5 (0, 0))) (hi : i < 3) : w.cell? ⟨g, i, none⟩ = some (.int .u8 ((Gz.fst3 i).toNat : Int)) := by
  rw [cell_of_row w g i _ _ _ h]
  rcases (by omega : i = 0 ∨ i = 1 ∨ i = 2) with rfl | rfl | rfl <;> rfl
set_option maxRecDepth 100000 in
set_option maxHeartbeats 4000000 in
theorem rhead_go (s : ByteArray) (w : World) (hs : s.size ≤ 140737488351232) :
    Calls Try.prog 41 #[.string s] w (HdIn s.data.toList w) := by
  have hb0 := (Below.refl w.heap.size w).alloc (Nat.le_refl _) (.cells #[.int .u8 31, .int .u8 139, .int .u8 8] 5)
  have hr0 := heap_alloc_new w (.cells #[.int .u8 31, .int .u8 139, .int .u8 8] 5)
  have HCR : ∀ (p : Nat) (w : World), Calls Try.prog 15 #[.int .u32 0, .string (s.extract 0 p)] w fun o w' => o = .returned (.int .u32 ((Cm.crc 0 (s.extract 0 p).data.toList : Nat) : Int)) ∧ w' = w := fun p w =>
    (rcrc_any 0 (s.extract 0 p) w (by omega) (by
      have : (s.extract 0 p).size ≤ s.size := by simp; omega
      unfold maxLen; omega)).mono fun o w' ⟨q1, q2⟩ => ⟨q1, q2.symm⟩
  go_enter Try.func41, Try.ntmps41
  go_upto_block 0 with fail
  go_cut [] (fun wx => Below w.heap.size w wx ∧ Hid (∀ j, j < 3 → j < s.data.toList.length → s.data.toList.getD j 0 = Gz.fst3 j))
  case first =>
    generalize w.alloc (.cells #[.int .u8 31, .int .u8 139, .int .u8 8] 5) = wz at *
    go_wp2_with fail
    go_loopw [6] (fun ii wr => ∃ i : Nat, i ≤ 3 ∧ ii = .int .i64 i ∧ Below w.heap.size w wr ∧ wr.heap[w.heap.size]? = some (.cells #[.int .u8 31, .int .u8 139, .int .u8 8] 5 (0, 0)) ∧ Hid (∀ j, j < i → j < s.data.toList.length → s.data.toList.getD j 0 = Gz.fst3 j)) (fun ii _ => 3 - (intOf ii).toNat)
    case atStart => exact ⟨0, by omega, rfl, hb0, hr0, Lib.hid fun j hj => by omega⟩
    case round =>
      clear hb0 hr0
      obtain ⟨i, hi, rfl, hb, hr, H3⟩ := hrel
      by_cases c1 : i < 3
      · have q1 : decide ((i : Int) < 3) = true := decide_eq_true (by omega)
        by_cases c2 : i < s.size
        · have q2 : decide ((i : Int) < (s.size : Int)) = true := decide_eq_true (by omega)
          have q2' : decide (i < s.size) = true := decide_eq_true c2
          have hc := fst_cell hr c1
          have hix := index_byte w.heap.size 3 3 i c1
          have hby := byte_at s i c2
          by_cases hbb : s[i] = Gz.fst3 i
          · have q3 : (((s[i].toNat : Nat) : Int) != ((Gz.fst3 i).toNat : Int)) = false := by rw [hbb]; simp
            have H4 : Hid (∀ j, j < i + 1 → j < s.data.toList.length → s.data.toList.getD j 0 = Gz.fst3 j) := Lib.hid fun j hj hl => by
              by_cases e : j = i
              · subst e; rw [hby]; exact hbb
              · exact H3.out j (by omega) hl
            replace hr := Lib.hid hr
            clear hbb hby H3
            go_wp2_with fail
            go_quiet (fail)
            go_wp2
            go_roundw
            case rel => exact ⟨i + 1, by omega, by go_num, below_drewN hb _, hr.out, H4⟩
            case measure => simp [intOf]; omega
          · have q3 : (((s[i].toNat : Nat) : Int) != ((Gz.fst3 i).toNat : Int)) = true := by
              rw [bne_iff_ne]; intro e; exact hbb (UInt8.toNat_inj.1 (by omega))
            have HM : Hid (Gz.magP s.data.toList = .bad 100) := Lib.hid (Gz.fst3_odd c1 (by rw [blen]; exact c2) (by rw [hby]; exact hbb))
            clear hbb hby H3 hr
            go_wp2_with fail
            go_quiet (fail)
            go_wp2
            go_ret3
            exact HdIn.bad HM.out (below_drewN hb _)
        · have q2 : decide ((i : Int) < (s.size : Int)) = false := decide_eq_false (by omega)
          have q2' : decide (i < s.size) = false := decide_eq_false c2
          have H4 : Hid (∀ j, j < 3 → j < s.data.toList.length → s.data.toList.getD j 0 = Gz.fst3 j) := Lib.hid fun j hj hl => H3.out j (by rw [blen] at hl; omega) hl
          clear hr H3
          go_wp2_with fail
          go_meet
          exact ⟨hb, H4⟩
      · have q1 : decide ((i : Int) < 3) = false := decide_eq_false (by omega)
        have H4 : Hid (∀ j, j < 3 → j < s.data.toList.length → s.data.toList.getD j 0 = Gz.fst3 j) := Lib.hid fun j hj hl => H3.out j (by omega) hl
        clear hr H3
        go_wp2_with fail
        go_meet
        exact ⟨hb, H4⟩
  case rest =>
    clear hb0 hr0
    obtain ⟨hb, H3⟩ := hcut
    obtain ⟨wa, hwa⟩ : ∃ x : World, x = wc := ⟨wc, rfl⟩
    subst hwa
    have hb3 : ∀ h : 3 < s.size, s.data.toList.getD 3 0 = s[3] := fun h => byte_at s 3 h
    by_cases l3 : 3 < s.size
    rotate_left
    · have q1 : decide ((3 : Int) < (s.size : Int)) = false := decide_eq_false (by omega)
      have q1' : decide (3 < s.size) = false := decide_eq_false l3
      have q2 : decide ((s.size : Int) < 10) = true := decide_eq_true (by omega)
      have q2' : decide (s.size < 10) = true := decide_eq_true (by omega)
      have HM : Hid (Gz.magP s.data.toList = .more) := Lib.hid (by rw [Gz.mag_even H3.out (by rw [blen]; exact fun q => l3 q.1), if_pos (by rw [blen]; omega)])
      clear hb3 H3
      go_wp2_with fail
      go_ret3
      exact HdIn.more HM.out hb
    have q1 : decide ((3 : Int) < (s.size : Int)) = true := decide_eq_true (by omega)
    have q1' : decide (3 < s.size) = true := decide_eq_true l3
    have e3 := hb3 l3
    clear hb3
    by_cases f32 : 32 ≤ s[3].toNat
    · have q3 : decide ((32 : Int) ≤ ((s[3].toNat : Nat) : Int)) = true := decide_eq_true (by omega)
      have q3' : decide (32 ≤ s[3].toNat) = true := decide_eq_true f32
      have HM : Hid (Gz.magP s.data.toList = .bad 100) := Lib.hid (Gz.flag_odd (by rw [blen]; exact l3) (by rw [e3]; exact f32))
      clear H3 e3
      go_wp2_with fail
      go_ret3
      exact HdIn.bad HM.out hb
    have q3 : decide ((32 : Int) ≤ ((s[3].toNat : Nat) : Int)) = false := decide_eq_false (by omega)
    have q3' : decide (32 ≤ s[3].toNat) = false := decide_eq_false f32
    have hmag := Gz.mag_even H3.out (by rw [e3]; exact fun q => f32 q.2)
    rw [blen, e3] at hmag
    by_cases l10 : s.size < 10
    · have q2 : decide ((s.size : Int) < 10) = true := decide_eq_true (by omega)
      have q2' : decide (s.size < 10) = true := decide_eq_true l10
      rw [if_pos l10] at hmag
      replace hmag := Lib.hid hmag
      clear H3 e3
      go_wp2_with fail
      go_ret3
      exact HdIn.more hmag.out hb
    have q2 : decide ((s.size : Int) < 10) = false := decide_eq_false (by omega)
    have q2' : decide (s.size < 10) = false := decide_eq_false l10
    rw [if_neg l10] at hmag
    replace hmag := Lib.hid hmag
    clear H3 e3
    go_upto_region 11 with fail
    have hfl : s[3].toNat < 32 := by omega
    have r3 : (0 : Int) ≤ 3 := by omega
    have r3' : (3 : Int) < (s.size : Int) := by omega
    go_cut [7, 8] (fun v7 v8 wx => v7 = .int .i64 10 ∧ v8 = .int .i64 ((s[3].toNat : Nat) : Int) ∧ Below w.heap.size w wx)
    case first =>
      clear hmag
      go_quiet (fail)
      go_wp2
      go_meet
      exact ⟨rfl, rfl, below_drewN hb _⟩
    case rest =>
    clear hb f32 q3 q3' r3 r3'
    obtain ⟨rfl, rfl, hb⟩ := hcut
    generalize s[3].toNat = fl at *
    go_upto_if 46 with fail
    go_cut [7] (fun v wx => ∃ p : Nat, v = .int .i64 (p : Int) ∧ p ≤ s.size + 66000 + 2 ∧ Below w.heap.size w wx ∧ Hid (Gz.At s.data.toList 2 fl p))
    case first =>
      by_cases h4 : fl / 4 % 2 = 1
      · have qf : ((fl : Int) / 4 % 2 == 1) = true := by rw [beq_iff_eq]; omega
        by_cases l12 : s.size < 12
        · have q3 : decide ((s.size : Int) < 12) = true := decide_eq_true (by omega)
          have q3' : decide (s.size < 12) = true := decide_eq_true l12
          have HM := Lib.hid (Gz.ext_more hmag.out h4 (by rw [blen]; exact l12))
          clear hmag h4
          go_wp2_with fail
          go_ret3
          exact HdIn.more HM.out hb
        · have q3 : decide ((s.size : Int) < 12) = false := decide_eq_false (by omega)
          have q3' : decide (s.size < 12) = false := decide_eq_false l12
          have g10 : 10 < s.size := by omega
          have g11 : 11 < s.size := by omega
          have r10 : (10 : Int) < (s.size : Int) := by omega
          have r11 : (11 : Int) < (s.size : Int) := by omega
          have e2 := Gz.nAt_two (s := s.data.toList) (p := 10) (by rw [blen]; omega)
          rw [byte_at s 10 g10, byte_at s 11 g11] at e2
          have HA := Lib.hid (Gz.At.ext hmag.out h4 (by rw [blen]; omega) e2)
          have x10 := s[10].toNat_lt
          have x11 := s[11].toNat_lt
          have a1 : IntKind.i64.wrap (12 + ((s[10].toNat : Nat) : Int)) = ((12 + s[10].toNat : Nat) : Int) := by rw [IntWalk.i64_in _ (by omega)]; omega
          have a2 : IntKind.i64.wrap (256 * ((s[11].toNat : Nat) : Int)) = ((256 * s[11].toNat : Nat) : Int) := by rw [IntWalk.i64_in _ (by omega)]; omega
          have a3 : IntKind.i64.wrap (((12 + s[10].toNat : Nat) : Int) + ((256 * s[11].toNat : Nat) : Int)) = ((12 + s[10].toNat + 256 * s[11].toNat : Nat) : Int) := by rw [IntWalk.i64_in _ (by omega)]; omega
          have a4 : IntKind.i64.wrap ((s[10].toNat : Nat) : Int) = ((s[10].toNat : Nat) : Int) := IntWalk.i64_in _ (by omega)
          have a5 : IntKind.i64.wrap ((s[11].toNat : Nat) : Int) = ((s[11].toNat : Nat) : Int) := IntWalk.i64_in _ (by omega)
          clear hmag h4 e2
          go_upto_region 15 with fail
          go_quiet (fail)
          go_wp2
          go_meet
          exact ⟨12 + (s[10].toNat + 256 * s[11].toNat), val_int (by omega), by omega, below_drewN hb _, HA⟩
      · have qf : ((fl : Int) / 4 % 2 == 1) = false := by rw [beq_eq_false_iff_ne]; omega
        have HA := Lib.hid (Gz.At.noext hmag.out h4 (by rw [blen]; omega))
        clear hmag h4
        go_wp2_with fail
        go_meet
        exact ⟨10, rfl, by omega, hb, HA⟩
    case rest =>
    clear hb hmag
    obtain ⟨p0, rfl, hp0, hb0, HA0⟩ := hcut
    go_wp2_with fail
    go_loopw [7, 9] (fun v b wr => ∃ p k : Nat, 2 ≤ k ∧ k ≤ 4 ∧ v = .int .i64 (p : Int) ∧ b = .int .i64 (if k = 2 then 8 else if k = 3 then 16 else 32) ∧ p ≤ s.size + 66000 + k ∧ Below w.heap.size w wr ∧ Hid (Gz.At s.data.toList k fl p)) (fun _ b _ => 32 - (intOf b).toNat)
    case atStart => exact ⟨p0, 2, by omega, by omega, rfl, rfl, hp0, hb0, HA0⟩
    case round =>
      clear hb0 HA0 hp0
      obtain ⟨p, k, hk2, hk4, rfl, rfl, hp, hb, HA⟩ := hrel
      by_cases k2 : k = 2
      · subst k2
        rw [if_pos rfl]
        have HA' : Hid (Gz.At s.data.toList 2 fl p) := HA
        by_cases hf : fl / 8 % 2 = 1
        rotate_left
        · have q1 : ((fl : Int) / 8 % 2 == 0) = true := by rw [beq_iff_eq]; omega
          have HA2 : Hid (Gz.At s.data.toList 3 fl p) := Lib.hid (HA'.out.skip2 hf)
          clear hf HA HA'
          go_wp2_with fail
          go_roundw
          case rel => exact ⟨p, 3, by omega, by omega, rfl, rfl, by omega, hb, HA2⟩
          case measure => simp [intOf]
        · have q1 : ((fl : Int) / 8 % 2 == 0) = false := by rw [beq_eq_false_iff_ne]; omega
          have hfH := Lib.hid hf
          clear hf HA
          go_wp2_with fail
          go_loopw [7] (fun v wr => ∃ j : Nat, v = .int .i64 j ∧ p ≤ j ∧ j ≤ s.size + 66000 + 2 ∧ Below w.heap.size w wr ∧ Hid (∀ i, p ≤ i → i < j → i < s.size → s.data.toList.getD i 0 ≠ 0)) (fun v _ => s.size - (intOf v).toNat)
          case atStart => exact ⟨p, rfl, Nat.le_refl _, hp, hb, Lib.hid fun i h1 h2 => by omega⟩
          case round =>
            clear hb
            obtain ⟨j, rfl, hpj, hj, hb, HZ⟩ := hrel
            by_cases hl : j < s.size
            · have q2 : decide ((j : Int) < (s.size : Int)) = true := decide_eq_true (by omega)
              have q2' : decide (j < s.size) = true := decide_eq_true hl
              have hby := byte_at s j hl
              by_cases h0 : s[j] = 0
              · have q3 : (((s[j].toNat : Nat) : Int) != 0) = false := by rw [h0]; rfl
                have HA2 : Hid (Gz.At s.data.toList 3 fl (j + 1)) := Lib.hid (HA'.out.text2 hfH.out hpj (by rw [blen]; exact hl) (by rw [hby]; exact h0) fun i h1 h2 => HZ.out i h1 h2 (by omega))
                clear h0 hby HZ HA'
                go_wp2_with fail
                go_roundw
                case rel => exact ⟨j + 1, 3, by omega, by omega, by go_num, rfl, by omega, hb, HA2⟩
                case measure => simp [intOf]
              · have q3 : (((s[j].toNat : Nat) : Int) != 0) = true := by
                  rw [bne_iff_ne]; intro e; exact h0 (UInt8.toNat_inj.1 (by simpa using e))
                have HZ2 : Hid (∀ i, p ≤ i → i < j + 1 → i < s.size → s.data.toList.getD i 0 ≠ 0) := Lib.hid fun i h1 h2 h3 => by
                  by_cases e : i = j
                  · subst e; rw [hby]; exact h0
                  · exact HZ.out i h1 (by omega) h3
                clear h0 hby HZ
                go_wp2_with fail
                go_roundw
                case rel => exact ⟨j + 1, by go_num, by omega, by omega, hb, HZ2⟩
                case measure => simp [intOf]; omega
            · have q2 : decide ((j : Int) < (s.size : Int)) = false := decide_eq_false (by omega)
              have q2' : decide (j < s.size) = false := decide_eq_false hl
              have HA2 : Hid (Gz.At s.data.toList 3 fl (j + 1)) := Lib.hid (HA'.out.none2 hfH.out (by rw [blen]; omega) fun i h1 h2 => HZ.out i h1 (by rw [blen] at h2; omega) (by rw [blen] at h2; exact h2))
              clear HZ HA'
              go_wp2_with fail
              go_roundw
              case rel => exact ⟨j + 1, 3, by omega, by omega, by go_num, rfl, by omega, hb, HA2⟩
              case measure => simp [intOf]
      by_cases k3 : k = 3
      · subst k3
        rw [if_neg (by omega), if_pos rfl]
        have HA' : Hid (Gz.At s.data.toList 3 fl p) := HA
        by_cases hf : fl / 16 % 2 = 1
        rotate_left
        · have q1 : ((fl : Int) / 16 % 2 == 0) = true := by rw [beq_iff_eq]; omega
          have HA2 : Hid (Gz.At s.data.toList 4 fl p) := Lib.hid (HA'.out.skip3 hf)
          clear hf HA HA'
          go_wp2_with fail
          go_roundw
          case rel => exact ⟨p, 4, by omega, by omega, rfl, rfl, by omega, hb, HA2⟩
          case measure => simp [intOf]
        · have q1 : ((fl : Int) / 16 % 2 == 0) = false := by rw [beq_eq_false_iff_ne]; omega
          have hfH := Lib.hid hf
          clear hf HA
          go_wp2_with fail
          go_loopw [7] (fun v wr => ∃ j : Nat, v = .int .i64 j ∧ p ≤ j ∧ j ≤ s.size + 66000 + 3 ∧ Below w.heap.size w wr ∧ Hid (∀ i, p ≤ i → i < j → i < s.size → s.data.toList.getD i 0 ≠ 0)) (fun v _ => s.size - (intOf v).toNat)
          case atStart => exact ⟨p, rfl, Nat.le_refl _, hp, hb, Lib.hid fun i h1 h2 => by omega⟩
          case round =>
            clear hb
            obtain ⟨j, rfl, hpj, hj, hb, HZ⟩ := hrel
            by_cases hl : j < s.size
            · have q2 : decide ((j : Int) < (s.size : Int)) = true := decide_eq_true (by omega)
              have q2' : decide (j < s.size) = true := decide_eq_true hl
              have hby := byte_at s j hl
              by_cases h0 : s[j] = 0
              · have q3 : (((s[j].toNat : Nat) : Int) != 0) = false := by rw [h0]; rfl
                have HA2 : Hid (Gz.At s.data.toList 4 fl (j + 1)) := Lib.hid (HA'.out.text3 hfH.out hpj (by rw [blen]; exact hl) (by rw [hby]; exact h0) fun i h1 h2 => HZ.out i h1 h2 (by omega))
                clear h0 hby HZ HA'
                go_wp2_with fail
                go_roundw
                case rel => exact ⟨j + 1, 4, by omega, by omega, by go_num, rfl, by omega, hb, HA2⟩
                case measure => simp [intOf]
              · have q3 : (((s[j].toNat : Nat) : Int) != 0) = true := by
                  rw [bne_iff_ne]; intro e; exact h0 (UInt8.toNat_inj.1 (by simpa using e))
                have HZ2 : Hid (∀ i, p ≤ i → i < j + 1 → i < s.size → s.data.toList.getD i 0 ≠ 0) := Lib.hid fun i h1 h2 h3 => by
                  by_cases e : i = j
                  · subst e; rw [hby]; exact h0
                  · exact HZ.out i h1 (by omega) h3
                clear h0 hby HZ
                go_wp2_with fail
                go_roundw
                case rel => exact ⟨j + 1, by go_num, by omega, by omega, hb, HZ2⟩
                case measure => simp [intOf]; omega
            · have q2 : decide ((j : Int) < (s.size : Int)) = false := decide_eq_false (by omega)
              have q2' : decide (j < s.size) = false := decide_eq_false hl
              have HA2 : Hid (Gz.At s.data.toList 4 fl (j + 1)) := Lib.hid (HA'.out.none3 hfH.out (by rw [blen]; omega) fun i h1 h2 => HZ.out i h1 (by rw [blen] at h2; omega) (by rw [blen] at h2; exact h2))
              clear HZ HA'
              go_wp2_with fail
              go_roundw
              case rel => exact ⟨j + 1, 4, by omega, by omega, by go_num, rfl, by omega, hb, HA2⟩
              case measure => simp [intOf]
      obtain rfl : k = 4 := by omega
      rw [if_neg (by omega), if_neg (by omega)]
      clear k2 k3 hk2 hk4
      by_cases hfar : s.size < p
      · have q3 : decide ((s.size : Int) < (p : Int)) = true := decide_eq_true (by omega)
        have q3' : decide (s.size < p) = true := decide_eq_true hfar
        have HM := Lib.hid (HA.out.far (by rw [blen]; exact hfar))
        clear HA
        go_wp2_with fail
        go_ret3
        exact HdIn.more HM.out hb
      · have q3 : decide ((s.size : Int) < (p : Int)) = false := decide_eq_false (by omega)
        have q3' : decide (s.size < p) = false := decide_eq_false hfar
        have HS := HA.out.sum (by rw [blen]; omega)
        unfold Gz.sumP at HS
        clear HA
        by_cases h2 : fl / 2 % 2 = 1
        · rw [if_pos h2] at HS
          have qf : ((fl : Int) / 2 % 2 == 1) = true := by rw [beq_iff_eq]; omega
          by_cases l2 : s.size < p + 2
          · have q4 : decide ((s.size : Int) < (p : Int) + 2) = true := decide_eq_true (by omega)
            rw [if_pos (by rw [blen]; exact l2)] at HS
            replace HS := Lib.hid HS
            clear h2
            go_wp2_with fail
            go_ret3
            exact HdIn.more HS.out hb
          · have q4 : decide ((s.size : Int) < (p : Int) + 2) = false := decide_eq_false (by omega)
            rw [if_neg (by rw [blen]; exact l2), Gz.nAt_two (by rw [blen]; omega), byte_at s p (by omega), byte_at s (p + 1) (by omega)] at HS
            have ex : (s.extract 0 p).data.toList = List.take p s.data.toList := by simp
            have hc32 := Cm.crc_lt 0 (List.take p s.data.toList)
            rw [← ex] at HS hc32
            have gp : p < s.size := by omega
            have gp1 : p + 1 < s.size := by omega
            have x0 := s[p].toNat_lt
            have y0 := s[p + 1].toNat_lt
            have r0 : (p : Int) < (s.size : Int) := by omega
            have r1 : (p : Int) + 1 < (s.size : Int) := by omega
            have r2 : (0 : Int) ≤ (p : Int) + 1 := by omega
            have r3 : ((p : Int) + 1).toNat = p + 1 := by omega
            have r4 : (p : Int) ≤ (s.size : Int) := by omega
            have a1 : IntKind.i64.wrap ((p : Int) + 1) = (p : Int) + 1 := IntWalk.i64_in _ (by omega)
            have a2 : IntKind.i64.wrap (256 * ((s[p + 1].toNat : Nat) : Int)) = ((256 * s[p + 1].toNat : Nat) : Int) := by rw [IntWalk.i64_in _ (by omega)]; omega
            have a3 : IntKind.i64.wrap (((s[p].toNat : Nat) : Int) + ((256 * s[p + 1].toNat : Nat) : Int)) = ((s[p].toNat + 256 * s[p + 1].toNat : Nat) : Int) := by rw [IntWalk.i64_in _ (by omega)]; omega
            have a4 : IntKind.i64.wrap ((s[p].toNat : Nat) : Int) = ((s[p].toNat : Nat) : Int) := IntWalk.i64_in _ (by omega)
            have a5 : IntKind.i64.wrap ((s[p + 1].toNat : Nat) : Int) = ((s[p + 1].toNat : Nat) : Int) := IntWalk.i64_in _ (by omega)
            have HC := HCR p
            generalize Cm.crc 0 (s.extract 0 p).data.toList = cc at *
            have b1 : ((cc : Nat) : Int).tmod 65536 = ((cc % 65536 : Nat) : Int) := rfl
            have b2 : IntKind.u32.wrap ((cc % 65536 : Nat) : Int) = ((cc % 65536 : Nat) : Int) := IntWalk.u32_in _ (by omega)
            have b3 : IntKind.i64.wrap ((cc % 65536 : Nat) : Int) = ((cc % 65536 : Nat) : Int) := IntWalk.i64_in _ (by omega)
            clear ex h2 HCR
            by_cases heq : s[p].toNat + 256 * s[p + 1].toNat = cc % 65536
            · rw [if_pos heq] at HS
              have q5 : (((s[p].toNat + 256 * s[p + 1].toNat : Nat) : Int) != ((cc % 65536 : Nat) : Int)) = false := by rw [heq]; simp
              replace HS := Lib.hid HS
              clear heq hc32
              go_wp2_with fail
              go_quiet ((go_at_call 15; exact Calls.quiet_of_same (HC _)))
              go_wp2
              go_ret3
              exact HdIn.ok HS.out (below_drewN hb _)
            · rw [if_neg heq] at HS
              have q5 : (((s[p].toNat + 256 * s[p + 1].toNat : Nat) : Int) != ((cc % 65536 : Nat) : Int)) = true := by rw [bne_iff_ne]; omega
              replace HS := Lib.hid HS
              clear heq hc32
              go_wp2_with fail
              go_quiet ((go_at_call 15; exact Calls.quiet_of_same (HC _)))
              go_wp2
              go_ret3
              exact HdIn.bad HS.out (below_drewN hb _)
        · rw [if_neg h2] at HS
          have qf : ((fl : Int) / 2 % 2 == 1) = false := by rw [beq_eq_false_iff_ne]; omega
          replace HS := Lib.hid HS
          clear h2
          go_wp2_with fail
          go_ret3
          exact HdIn.ok HS.out hb
end Go.Proofs.Ytcjcmlnbchmnnaa
/-! ### RRun -/
namespace Go.Proofs.Ytcjcmlnbchmnnaa
open Go.RowKit

/-- the reference's Run of bytes that may go on -/
theorem xrun9_ok (most : Nat) (s : ByteArray) (w : World) (c : Im.St) (hm : most ≤ 140737488355328) (hs : s.size ≤ 281474976710656) (hrun : Im.Run s.data.toList most Im.start c 0) :
    Calls Try.prog 36 #[.string s, .int .i64 (most : Int)] w fun o w' => ∃ n : Nat, o = .returned (.tuple #[.string ⟨c.out.toArray⟩, .int .i64 (n : Int), .bool (decide (c.state = 3)), .int .i64 0]) ∧ (c.state = 3 → n = c.pos / 8) ∧ Below w.heap.size w w' := by
  refine (xrun_go most s w c 0 hm hs hrun).mono ?_
  rintro o w' ⟨n, rfl, hn, hb⟩
  have e1 : decide ((0 : Int) = 0 ∧ c.state = 3) = decide (c.state = 3) := by simp
  exact ⟨n, by rw [if_pos rfl, e1], hn rfl, hb⟩
theorem xrun9_bad (most : Nat) (s : ByteArray) (w : World) (c : Im.St) (e : Int) (he : e ≠ 0) (hm : most ≤ 140737488355328) (hs : s.size ≤ 281474976710656) (hrun : Im.Run s.data.toList most Im.start c e) :
    Calls Try.prog 36 #[.string s, .int .i64 (most : Int)] w fun o w' => ∃ n : Nat, o = .returned (.tuple #[.string ⟨#[]⟩, .int .i64 (n : Int), .bool false, .int .i64 e]) ∧ Below w.heap.size w w' := by
  refine (xrun_go most s w c e hm hs hrun).mono ?_
  rintro o w' ⟨n, rfl, hn, hb⟩
  have e1 : decide (e = 0 ∧ c.state = 3) = false := by simp [he]
  exact ⟨n, by rw [if_neg he, e1], hb⟩
/-- what the document's Run comes to -/
def XGIn (out : List UInt8) (e : Int) (fin : Option Nat) (w : World) (o : Ending) (w' : World) : Prop :=
  o = .returned (.tuple #[.string ⟨out.toArray⟩, .int .i64 ((fin.getD 0 : Nat) : Int), .bool fin.isSome, .int .i64 e]) ∧ Below w.heap.size w w'
theorem xgrun_neg (most : Int) (s : ByteArray) (w : World) (h : most < 0) :
    Calls Try.prog 22 #[.string s, .int .i64 most] w fun o w' => o = .returned (.tuple #[.string ⟨#[]⟩, .int .i64 0, .bool false, .int .i64 1]) ∧ w = w' := by
  have q : decide (most < 0) = true := by simp; omega
  go_enter Try.func22, Try.ntmps22
  go_wp2
  exact bodyPost_ret (v := .tuple #[.string ⟨#[]⟩, .int .i64 0, .bool false, .int .i64 1]) (by simp [results, Try.results22, go_sem]) rfl ⟨rfl, rfl⟩
set_option maxRecDepth 100000 in
set_option maxHeartbeats 4000000 in
theorem xgrun_go (most : Nat) (s : ByteArray) (w : World) (out : List UInt8) (e : Int) (fin : Option Nat) (hm : most ≤ 140737488355328) (hs : s.size ≤ 140737488351232) (hrun : Gz.GRun s.data.toList most (out, e, fin)) :
    Calls Try.prog 22 #[.string s, .int .i64 (most : Int)] w (XGIn out e fin w) := by
  have q : decide ((most : Int) < 0) = false := by simp
  have HH := rhead_go s w hs
  unfold HdIn at HH
  rcases hrun with ⟨h1, h2⟩ | ⟨e', h1, h2⟩ | ⟨p, c, f, h1, h2, h3⟩
  · rw [h1] at HH
    dsimp only [hdAns] at HH
    obtain ⟨rfl, rfl, rfl⟩ : out = [] ∧ e = 0 ∧ fin = none := by injection h2 with a b; injection b with b d; exact ⟨a, b, d⟩
    go_enter Try.func22, Try.ntmps22
    go_wp2_with (go_at_call 41; refine HH.mono ?_; rintro o w1 ⟨rfl, hb1⟩)
    exact bodyPost_ret (v := .tuple #[.string ⟨#[]⟩, .int .i64 0, .bool false, .int .i64 0]) (by simp [results, Try.results22, go_sem]) rfl ⟨rfl, hb1⟩
  · rw [h1] at HH
    dsimp only [hdAns] at HH
    obtain ⟨rfl, rfl, rfl⟩ : out = [] ∧ e = e' ∧ fin = none := by injection h2 with a b; injection b with b d; exact ⟨a, b, d⟩
    have he : e ≠ 0 := by rcases Gz.magP_bad h1 with q | q <;> omega
    have qe : (e != 0) = true := by simpa using he
    clear he h1 h2
    go_enter Try.func22, Try.ntmps22
    go_wp2_with (go_at_call 41; refine HH.mono ?_; rintro o w1 ⟨rfl, hb1⟩)
    exact bodyPost_ret (v := .tuple #[.string ⟨#[]⟩, .int .i64 0, .bool false, .int .i64 e]) (by simp [results, Try.results22, go_sem]) rfl ⟨rfl, hb1⟩
  rw [h1] at HH
  dsimp only [hdAns] at HH
  obtain ⟨hp10, hpl⟩ := Gz.magP_le h1
  rw [blen] at hpl
  have hdr : (s.extract p s.size).data.toList = s.data.toList.drop p := drop_list s p
  have hez : (s.extract p s.size).size ≤ s.size := by simp
  have hwt := h2.went (Nat.zero_le _) (Nat.zero_le _)
  have hol : c.out.length ≤ most := hwt.2.2.2.1 (Nat.zero_le _)
  have hpos := hwt.1
  rw [List.length_drop, blen] at hpos
  clear h1 hwt
  by_cases hf : f = 0
  rotate_left
  · have qe : (f != 0) = true := by simpa using hf
    rw [Gz.behind, if_pos hf] at h3
    obtain ⟨rfl, rfl, rfl⟩ : out = [] ∧ e = f ∧ fin = none := by injection h3 with a b; injection b with b d; exact ⟨a, b, d⟩
    have HX := fun w1 => xrun9_bad most (s.extract p s.size) w1 c e hf hm (by omega) (by rw [hdr]; exact h2)
    clear h3 hf h2 hdr hez
    go_enter Try.func22, Try.ntmps22
    go_wp2_with (first | (go_at_call 41; refine HH.mono ?_; rintro o w1 ⟨rfl, hb1⟩) | (go_at_call 36; refine (HX _).mono ?_; rintro o w2 ⟨n, rfl, hb2⟩))
    exact bodyPost_ret (v := .tuple #[.string ⟨#[]⟩, .int .i64 0, .bool false, .int .i64 e]) (by simp [results, Try.results22, go_sem]) rfl ⟨rfl, belThen hb1 hb2⟩
  subst hf
  have HX := fun w1 => xrun9_ok most (s.extract p s.size) w1 c hm (by omega) (by rw [hdr]; exact h2)
  clear h2 hdr hez
  by_cases h3s : c.state = 3
  rotate_left
  · rw [behind_on h3s] at h3
    obtain ⟨rfl, rfl, rfl⟩ : out = c.out ∧ e = 0 ∧ fin = none := by injection h3 with a b; injection b with b d; exact ⟨a, b, d⟩
    simp only [decide_eq_false h3s] at HX
    clear h3 h3s
    go_enter Try.func22, Try.ntmps22
    go_wp2_with (first | (go_at_call 41; refine HH.mono ?_; rintro o w1 ⟨rfl, hb1⟩) | (go_at_call 36; refine (HX _).mono ?_; rintro o w2 ⟨n, rfl, _, hb2⟩))
    exact bodyPost_ret (v := .tuple #[.string ⟨c.out.toArray⟩, .int .i64 0, .bool false, .int .i64 0]) (by simp [results, Try.results22, go_sem]) rfl ⟨rfl, belThen hb1 hb2⟩
  simp only [decide_eq_true h3s] at HX
  have hQ : p + c.pos / 8 ≤ s.size := by omega
  have HG := fun a w => Lib.hid (rget_yes (s.extract a (a + 4)) w)
  have HC := fun w => Lib.hid (rcrc_any 0 ⟨c.out.toArray⟩ w (by omega) (by unfold maxLen; rw [← blen]; exact Nat.le_trans hol (by omega)))
  replace h3 := Lib.hid h3
  replace h3s := Lib.hid h3s
  go_enter Try.func22, Try.ntmps22
  go_upto_region 11 with (first | (go_at_call 41; refine HH.mono ?_; rintro o w1 ⟨rfl, hb1⟩; clear HH) | (go_at_call 36; refine (HX _).mono ?_; rintro o w2 ⟨n, rfl, hn, hb2⟩; clear HX))
  obtain rfl := hn h3s.out
  have hb := belThen hb1 hb2
  clear hb1 hb2 hn
  generalize hq8 : c.pos / 8 = n8 at *
  replace hq8 := Lib.hid hq8
  go_wp2_with fail
  go_loopw [8, 14] (fun av tv wr => ∃ j A : Nat, j ≤ 2 ∧ tv = .int .i64 (j : Int) ∧ av = .int .i64 (A : Int) ∧ A ≤ s.size ∧ Hid (p + n8 + 4 * j = A) ∧ wr = w2 ∧ Hid (∀ i, i < j → Gz.nAt 4 s.data.toList (p + n8 + 4 * i) = wantN c.out i)) (fun _ tv _ => 2 - (intOf tv).toNat)
  case atStart => exact ⟨0, p + n8, by omega, rfl, by go_num, hQ, Lib.hid (by omega), rfl, Lib.hid fun i hi => by omega⟩
  case round =>
    obtain ⟨j, A, hj, rfl, rfl, hA, hAj, rfl, hall⟩ := hrel
    have HT := Lib.hid (tail_of (s := s.data.toList) (Q := p + n8) (out := c.out) hj hall.out (by rw [blen, hAj.out]; exact hA))
    have HN : Hid (Gz.nAt 4 s.data.toList (p + n8 + 4 * j) = wantN c.out j → ∀ i, i < j + 1 → Gz.nAt 4 s.data.toList (p + n8 + 4 * i) = wantN c.out i) := Lib.hid fun hq i hi => by
      by_cases ei : i = j
      · subst ei; exact hq
      · exact hall.out i (by omega)
    clear hall
    by_cases e2 : j = 2
    · subst e2
      have qt : decide (((2 : Nat) : Int) < 2) = false := by decide
      have h4 := h3.out
      rw [behind_ok h3s.out (by rw [hq8.out]; exact (HT.out.1 (Or.inl rfl)))] at h4
      obtain ⟨rfl, rfl, rfl⟩ : out = c.out ∧ e = 0 ∧ fin = some (p + n8 + 8) := by injection h4 with a b; injection b with b d; exact ⟨a, b, d⟩
      have e8 : p + n8 + 8 = A := hAj.out
      have HP : Hid (XGIn c.out 0 (some (p + n8 + 8)) w (.returned (.tuple #[.string ⟨c.out.toArray⟩, .int .i64 (A : Int), .bool true, .int .i64 0])) wr) := Lib.hid ⟨by rw [e8]; rfl, hb⟩
      clear h4 hq8 HT h3 h3s HC HG HN
      go_wp2_with fail
      exact bodyPost_ret (v := .tuple #[.string ⟨c.out.toArray⟩, .int .i64 (A : Int), .bool true, .int .i64 0]) (by simp [results, Try.results22, go_sem]) rfl HP.out
    · rcases (by omega : j = 0 ∨ j = 1) with e0 | e1
      · subst e0
        have qt : decide (((0 : Nat) : Int) < 2) = true := by decide
        by_cases hfar : s.size < A + 4
        · have q4 : decide ((s.size : Int) < (A : Int) + 4) = true := decide_eq_true (by omega)
          have h4 := h3.out
          rw [behind_ok h3s.out (by rw [hq8.out]; exact (HT.out.1 (Or.inr (by rw [blen, hAj.out]; exact hfar))))] at h4
          obtain ⟨rfl, rfl, rfl⟩ : out = c.out ∧ e = 0 ∧ fin = none := by injection h4 with a b; injection b with b d; exact ⟨a, b, d⟩
          clear h4 hq8 HT h3 h3s HC HG
          go_wp2_with fail
          exact bodyPost_ret (v := .tuple #[.string ⟨c.out.toArray⟩, .int .i64 0, .bool false, .int .i64 0]) (by simp [results, Try.results22, go_sem]) rfl ⟨rfl, hb⟩
        · have q4 : decide ((s.size : Int) < (A : Int) + 4) = false := decide_eq_false (by omega)
          have ez : (s.extract A (A + 4)).size = 4 := by rw [ext_size' s A (A + 4) (by omega)]; omega
          have HG1 := fun w => (HG A w).out (by omega) (by omega)
          have eN : Cm.getN (s.extract A (A + 4)).data.toList = Gz.nAt 4 s.data.toList A := by rw [sub_list]; rfl
          rw [eN] at HG1
          have hno := HT.out.2 (by omega) (by rw [blen, hAj.out]; omega)
          have HT2 := HN.out
          rw [hAj.out] at hno HT2
          rw [show wantN c.out 0 = Cm.crc 0 c.out from rfl] at hno HT2
          generalize Gz.nAt 4 s.data.toList A = v at *
          clear ez eN HG
          have hcc := Cm.crc_lt 0 c.out
          replace h3 := Lib.hid h3.out
          generalize hcr : Cm.crc 0 c.out = cc at *
          replace hcr := Lib.hid hcr
          have qj : (((0 : Nat) : Int) == 1) = false := rfl
          have qj' : ((0 : Int) == 1) = false := rfl
          have a4 : IntKind.i64.wrap ((A : Int) + 4) = (A : Int) + 4 := IntWalk.i64_in _ (by omega)
          by_cases heq : v = cc
          · have q5 : ((v : Int) != (cc : Int)) = false := by rw [heq]; simp
            have HN2 := Lib.hid (HT2 heq)
            clear hno HT2 HT heq HN
            go_wp2_with (first | (go_at_call 42; refine (HG1 _).mono ?_; rintro o w9 ⟨rfl, rfl⟩; clear HG1) | (go_at_call 15; refine (HC _).out.mono ?_; rintro o w9 ⟨rfl, rfl⟩; clear HC))
            go_roundw
            case rel => exact ⟨0 + 1, A + 4, by omega, by go_num, by go_num, by omega, by have := hAj.out; exact Lib.hid (by omega), by first | trivial | rfl, HN2⟩
            case measure => simp [intOf]
          · have q5 : ((v : Int) != (cc : Int)) = true := by rw [bne_iff_ne]; omega
            have h4 := h3.out
            rw [behind_no h3s.out (by rw [hq8.out]; exact hno heq)] at h4
            obtain ⟨rfl, rfl, rfl⟩ : out = [] ∧ e = 101 ∧ fin = none := by injection h4 with a b; injection b with b d; exact ⟨a, b, d⟩
            clear hno HT2 HT heq h4 hq8 h3 h3s HN
            go_wp2_with (first | (go_at_call 42; refine (HG1 _).mono ?_; rintro o w9 ⟨rfl, rfl⟩; clear HG1) | (go_at_call 15; refine (HC _).out.mono ?_; rintro o w9 ⟨rfl, rfl⟩; clear HC))
            exact bodyPost_ret (v := .tuple #[.string ⟨#[]⟩, .int .i64 0, .bool false, .int .i64 101]) (by simp [results, Try.results22, go_sem]) rfl ⟨rfl, hb⟩
      · subst e1
        have qt : decide (((1 : Nat) : Int) < 2) = true := by decide
        by_cases hfar : s.size < A + 4
        · have q4 : decide ((s.size : Int) < (A : Int) + 4) = true := decide_eq_true (by omega)
          have h4 := h3.out
          rw [behind_ok h3s.out (by rw [hq8.out]; exact (HT.out.1 (Or.inr (by rw [blen, hAj.out]; exact hfar))))] at h4
          obtain ⟨rfl, rfl, rfl⟩ : out = c.out ∧ e = 0 ∧ fin = none := by injection h4 with a b; injection b with b d; exact ⟨a, b, d⟩
          clear h4 hq8 HT h3 h3s HC HG
          go_wp2_with fail
          exact bodyPost_ret (v := .tuple #[.string ⟨c.out.toArray⟩, .int .i64 0, .bool false, .int .i64 0]) (by simp [results, Try.results22, go_sem]) rfl ⟨rfl, hb⟩
        · have q4 : decide ((s.size : Int) < (A : Int) + 4) = false := decide_eq_false (by omega)
          have ez : (s.extract A (A + 4)).size = 4 := by rw [ext_size' s A (A + 4) (by omega)]; omega
          have HG1 := fun w => (HG A w).out (by omega) (by omega)
          have eN : Cm.getN (s.extract A (A + 4)).data.toList = Gz.nAt 4 s.data.toList A := by rw [sub_list]; rfl
          rw [eN] at HG1
          have hno := HT.out.2 (by omega) (by rw [blen, hAj.out]; omega)
          have HT2 := HN.out
          rw [hAj.out] at hno HT2
          rw [show wantN c.out 1 = c.out.length % 4294967296 from rfl] at hno HT2
          generalize Gz.nAt 4 s.data.toList A = v at *
          clear ez eN HG
          have hcc := Cm.crc_lt 0 c.out
          replace h3 := Lib.hid h3.out
          generalize hcr : Cm.crc 0 c.out = cc at *
          replace hcr := Lib.hid hcr
          have qj : (((1 : Nat) : Int) == 1) = true := rfl
          have m1 : (((⟨c.out.toArray⟩ : ByteArray).size : Nat) : Int).tmod 4294967296 = ((c.out.length % 4294967296 : Nat) : Int) := by rw [← blen]; rfl
          have m2 : (((⟨c.out.toArray⟩ : ByteArray).size : Nat) : Int) % 4294967296 = ((c.out.length % 4294967296 : Nat) : Int) := by rw [← blen]; simp
          generalize c.out.length % 4294967296 = lm at *
          have hsz : (⟨c.out.toArray⟩ : ByteArray).size ≤ 140737488355328 := by rw [← blen]; exact Nat.le_trans hol hm
          generalize (⟨c.out.toArray⟩ : ByteArray) = BO at *
          have a4 : IntKind.i64.wrap ((A : Int) + 4) = (A : Int) + 4 := IntWalk.i64_in _ (by omega)
          by_cases heq : v = lm
          · have q5 : ((v : Int) != (lm : Int)) = false := by rw [heq]; simp
            have HN2 := Lib.hid (HT2 heq)
            clear hno HT2 HT heq HN
            go_wp2_with (first | (go_at_call 42; refine (HG1 _).mono ?_; rintro o w9 ⟨rfl, rfl⟩; clear HG1) | (go_at_call 15; refine (HC _).out.mono ?_; rintro o w9 ⟨rfl, rfl⟩; clear HC))
            go_roundw
            case rel => exact ⟨1 + 1, A + 4, by omega, by go_num, by go_num, by omega, by have := hAj.out; exact Lib.hid (by omega), by first | trivial | rfl, HN2⟩
            case measure => simp [intOf]
          · have q5 : ((v : Int) != (lm : Int)) = true := by rw [bne_iff_ne]; omega
            have h4 := h3.out
            rw [behind_no h3s.out (by rw [hq8.out]; exact hno heq)] at h4
            obtain ⟨rfl, rfl, rfl⟩ : out = [] ∧ e = 101 ∧ fin = none := by injection h4 with a b; injection b with b d; exact ⟨a, b, d⟩
            clear hno HT2 HT heq h4 hq8 h3 h3s HN
            go_wp2_with (first | (go_at_call 42; refine (HG1 _).mono ?_; rintro o w9 ⟨rfl, rfl⟩; clear HG1) | (go_at_call 15; refine (HC _).out.mono ?_; rintro o w9 ⟨rfl, rfl⟩; clear HC))
            exact bodyPost_ret (v := .tuple #[.string ⟨#[]⟩, .int .i64 0, .bool false, .int .i64 101]) (by simp [results, Try.results22, go_sem]) rfl ⟨rfl, hb⟩
end Go.Proofs.Ytcjcmlnbchmnnaa
