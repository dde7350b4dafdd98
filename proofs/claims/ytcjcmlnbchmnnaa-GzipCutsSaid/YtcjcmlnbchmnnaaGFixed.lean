/- gzip.One by a known run; farrierlaw10.fixed tells true. -/
import Derived.Test.YtcjcmlnbchmnnaaGOne
import Derived.Test.YtcjcmlnbchmnnaaIFix
namespace Go.Proofs.Ytcjcmlnbchmnnaa
open Go.RowKit

def gO (out : List UInt8) (e : Int) (fin : Option Nat) : List UInt8 := if e = 0 ∧ fin.isSome then out else []
def gN (e : Int) (fin : Option Nat) : Nat := if e = 0 then fin.getD 0 else 0
def gE (e : Int) (fin : Option Nat) : Int := if e ≠ 0 then e else if fin.isSome then 0 else 102
theorem gone_neg (most : Int) (s : ByteArray) (w : World) (h : most < 0) :
    Calls Try.prog 17 #[.string s, .int .i64 most] w fun o w' => o = .returned (.tuple #[.string ⟨#[]⟩, .int .i64 0, .int .i64 1]) ∧ w = w' := by
  have HN := Lib.hid (gnew_no most w h)
  go_enter Try.func17, Try.ntmps17
  go_wp2_with (go_at_call 19; refine HN.out.mono ?_; rintro e w' ⟨rfl, rfl⟩)
  go_ret3
  exact ⟨rfl, rfl⟩
theorem gz_fin {s : List UInt8} {most : Nat} {out : List UInt8} {e : Int} {k : Nat} (h : Gz.GRun s most (out, e, some k)) : e = 0 ∧ k ≤ s.length := by
  rcases h with ⟨_, h⟩ | ⟨e', _, h⟩ | ⟨p, c, f, h1, h2, h⟩
  · injection h with _ h; injection h with _ h; cases h
  · injection h with _ h; injection h with _ h; cases h
  · unfold Gz.behind at h
    split at h
    · injection h with _ h; injection h with _ h; cases h
    · split at h
      · injection h with _ h; injection h with _ h; cases h
      · split at h
        · injection h with _ h
          have := Gz.tailP_fin h.symm
          exact ⟨this.1, this.2.2⟩
        · rename_i hx
          injection h with _ h
          rw [← h] at hx
          have := Gz.tailP_fin h.symm
          exact absurd this.1 hx
def GOneIn (out : List UInt8) (e : Int) (fin : Option Nat) (w : World) (o : Ending) (w' : World) : Prop := o = .returned (.tuple #[.string ⟨(gO out e fin).toArray⟩, .int .i64 (gN e fin : Int), .int .i64 (gE e fin)]) ∧ Below w.heap.size w w'
set_option maxHeartbeats 1000000 in
theorem gone_run (most : Nat) (s : ByteArray) (w : World) (out : List UInt8) (e : Int) (fin : Option Nat) (hm : most ≤ 140737488355328) (hs : s.size ≤ 281474976710656) (hrun : Gz.GRun s.data.toList most (out, e, fin)) :
    Calls Try.prog 17 #[.string s, .int .i64 (most : Int)] w (GOneIn out e fin w) := by
  have HN := Lib.hid (gnew_yes most w hm)
  by_cases he : e = 0
  · subst he
    have HW := fun G w1 h1 hL => Lib.hid (gin_write_ok G w.heap.size most [] [] out none fin s w1 h1 hL (by rw [List.length_nil]; omega) hrun)
    have HD := fun G w1 h1 => Lib.hid (gin_done G w.heap.size most ([] ++ s.data.toList) out fin w1 h1)
    have HR := fun G w1 h1 => Lib.hid (gin_rest G w.heap.size most ([] ++ s.data.toList) out fin w1 h1)
    cases fin with
    | some k =>
      have hk := (gz_fin hrun).2
      rw [blen] at hk
      have hrs : (ByteArray.mk (s.data.toList.drop k).toArray).size = s.size - k := by rw [← blen]; simp
      have ew : IntKind.i64.wrap ((s.size : Int) - ((s.size - k : Nat) : Int)) = (k : Int) := by rw [IntWalk.i64_in _ (by omega)]; omega
      have HP : Hid (∀ w', Below w.heap.size w w' → GOneIn out 0 (some k) w (.returned (.tuple #[.string ⟨(out.drop ([] : List UInt8).length).toArray⟩, .int .i64 (k : Int), .int .i64 0])) w') := fun w' hb => ⟨rfl, hb⟩
      simp only [List.nil_append, Option.isSome_some] at HW HD HR
      simp only [List.length_nil] at HP HW
      clear hk hrun
      generalize s.data.toList.drop k = dd at *
      generalize out.drop 0 = oo at *
      generalize s.size - k = rr at *
      go_enter Try.func17, Try.ntmps17
      go_wp2_with (first | (go_at_call 19; refine HN.out.mono ?_; rintro q w1 ⟨G, rfl, h1, hb1⟩; clear HN) | (go_at_call 21; refine (HW _ _ h1 hb1.size).out.mono ?_; rintro q w2 ⟨rfl, h2, hb2⟩; clear HW) | (go_at_call 23; refine (HD _ _ h2).out.mono ?_; rintro q w3 ⟨rfl, rfl⟩) | (go_at_call 24; refine (HR _ _ h2).out.mono ?_; rintro q w3 ⟨rfl, rfl⟩))
      go_ret3
      exact HP.out _ (hb1.trans hb2)
    | none =>
      have HP : Hid (∀ w', Below w.heap.size w w' → GOneIn out 0 none w (.returned (.tuple #[.string ⟨#[]⟩, .int .i64 0, .int .i64 102])) w') := fun w' hb => ⟨rfl, hb⟩
      simp only [List.nil_append, Option.isSome_none] at HW HD
      clear HR hrun
      generalize out.drop ([] : List UInt8).length = oo at *
      go_enter Try.func17, Try.ntmps17
      go_wp2_with (first | (go_at_call 19; refine HN.out.mono ?_; rintro q w1 ⟨G, rfl, h1, hb1⟩; clear HN) | (go_at_call 21; refine (HW _ _ h1 hb1.size).out.mono ?_; rintro q w2 ⟨rfl, h2, hb2⟩; clear HW) | (go_at_call 23; refine (HD _ _ h2).out.mono ?_; rintro q w3 ⟨rfl, rfl⟩))
      go_ret3
      exact HP.out _ (hb1.trans hb2)
  · have HW := fun G w1 h1 hL => Lib.hid (gin_write_bad G w.heap.size most [] [] out none fin e s w1 h1 hL (by rw [List.length_nil]; omega) hrun he)
    have q1 : (e != 0) = true := by simpa using he
    have HP : Hid (∀ w', Below w.heap.size w w' → GOneIn out e fin w (.returned (.tuple #[.string ⟨#[]⟩, .int .i64 0, .int .i64 e])) w') := fun w' hb => by
      unfold GOneIn gO gN gE
      rw [if_neg (fun q => he q.1), if_neg he, if_pos he]; exact ⟨rfl, hb⟩
    clear he hrun
    go_enter Try.func17, Try.ntmps17
    go_wp2_with (first | (go_at_call 19; refine HN.out.mono ?_; rintro q w1 ⟨G, rfl, h1, hb1⟩; clear HN) | (go_at_call 21; refine (HW _ _ h1 hb1.size).out.mono ?_; rintro q w2 ⟨rfl, h2, hb2⟩; clear HW))
    go_ret3
    exact HP.out _ (hb1.trans hb2)
/-! the streams that 'fixed' asks -/
def fgH : List UInt8 := [31, 139, 8, 0, 0, 0, 0, 0, 0, 0, 75, 4, 0]
def fgT : List UInt8 := [67, 190, 183, 232, 1, 0, 0, 0]
theorem fg_mag (t : List UInt8) : Gz.magP (fgH ++ t) = .ok 10 := by
  have h : Gz.magP fgH = .ok 10 := by kernel_rfl
  rcases Gz.magP_app fgH t with q | q
  · rw [h] at q; cases q
  · rw [q, h]
theorem fg_run (t : List UInt8) : ∃ c, Im.Run ((fgH ++ t).drop 10) 9 Im.start c 0 ∧ c.state = 3 ∧ c.out = [97] ∧ c.pos / 8 = 3 := by
  obtain ⟨b, h1, h2, h3, h4⟩ := Im.fx_lit
  exact ⟨b, h1.ended t h2, h2, h3, by rw [h4]⟩
theorem fg_half : Gz.GRun fgH 9 ([97], 0, none) := by
  obtain ⟨c, h1, h2, h3, h4⟩ := fg_run []
  rw [List.append_nil] at h1
  have h0 := fg_mag []
  rw [List.append_nil] at h0
  refine .inr (.inr ⟨10, c, 0, h0, h1, ?_⟩)
  rw [behind_ok (fin := none) h2 (by rw [h4, h3]; kernel_rfl), h3]
theorem fg_crc : Cm.crc 0 [97] = 3904355907 := by decide +kernel
theorem fg_all (t : List UInt8) : Gz.GRun (fgH ++ (fgT ++ t)) 9 ([97], 0, some 21) := by
  obtain ⟨c, h1, h2, h3, h4⟩ := fg_run (fgT ++ t)
  refine .inr (.inr ⟨10, c, 0, fg_mag _, h1, ?_⟩)
  have ht : Gz.tailP (fgH ++ fgT) 13 [97] = (0, some 21) := by
    unfold Gz.tailP
    rw [if_neg (by decide), fg_crc, if_neg (by decide), if_neg (by decide), if_neg (by decide)]
  have ht2 : Gz.tailP (fgH ++ (fgT ++ t)) 13 [97] = (0, some 21) := by
    rw [← List.append_assoc, Gz.tailP_app t (by rw [ht]; intro q; cases q), ht]
  rw [behind_ok (fin := some 21) h2 (by rw [h4, h3]; exact ht2), h3]
theorem fg_form : Gz.GRun [30] 9 ([], 100, none) := .inr (.inl ⟨100, by kernel_rfl, rfl⟩)
theorem fg_end : Gz.GRun [31] 9 ([], 0, none) := .inl ⟨by kernel_rfl, rfl⟩
set_option maxHeartbeats 2000000 in
set_option maxRecDepth 100000 in
theorem fixed10 (w : World) : Calls Try.prog 14 #[] w fun o w' => o = .returned (.bool true) ∧ Below w.heap.size w w' := by
  have H1 : ∀ w : World, Hid (Calls Try.prog 17 #[.string ⟨#[31, 139, 8, 0, 0, 0, 0, 0, 0, 0, 75, 4, 0, 67, 190, 183, 232, 1, 0, 0, 0, 120]⟩, .int .i64 9] w fun o w' => o = .returned (.tuple #[.string ⟨#[97]⟩, .int .i64 21, .int .i64 0]) ∧ Below w.heap.size w w') := fun w => gone_run 9 ⟨#[31, 139, 8, 0, 0, 0, 0, 0, 0, 0, 75, 4, 0, 67, 190, 183, 232, 1, 0, 0, 0, 120]⟩ w [97] 0 (some 21) (by omega) (by decide) (fg_all [120])
  have H2 : ∀ w : World, Hid (Calls Try.prog 17 #[.string ⟨#[30]⟩, .int .i64 9] w fun o w' => o = .returned (.tuple #[.string ⟨#[]⟩, .int .i64 0, .int .i64 100]) ∧ Below w.heap.size w w') := fun w => gone_run 9 ⟨#[30]⟩ w [] 100 none (by omega) (by decide) fg_form
  have H3 : ∀ w : World, Hid (Calls Try.prog 17 #[.string ⟨#[31]⟩, .int .i64 9] w fun o w' => o = .returned (.tuple #[.string ⟨#[]⟩, .int .i64 0, .int .i64 102]) ∧ Below w.heap.size w w') := fun w => gone_run 9 ⟨#[31]⟩ w [] 0 none (by omega) (by decide) fg_end
  have H6 : ∀ w : World, Hid (Calls Try.prog 19 #[.int .i64 (-1)] w fun o w' => o = .returned (.tuple #[.pointer none, .int .i64 1]) ∧ w = w') := fun w => gnew_no (-1) w (by omega)
  have H7 : ∀ w : World, Hid (Calls Try.prog 19 #[.int .i64 9] w fun o w' => ∃ G, o = .returned (.tuple #[.pointer (some ⟨G, 0, none⟩), .int .i64 0]) ∧ GzIn w' G w.heap.size 9 [] [] none ∧ Below w.heap.size w w') := fun w => gnew_yes 9 w (by omega)
  have H8 : ∀ (w : World) (G L : Nat), GzIn w G L 9 [] [] none → L ≤ w.heap.size → Hid (Calls Try.prog 21 #[.pointer (some ⟨G, 0, none⟩), .string ⟨#[31, 139, 8, 0, 0, 0, 0, 0, 0, 0, 75, 4, 0]⟩] w fun o w' => o = .returned (.tuple #[.string ⟨#[97]⟩, .int .i64 0]) ∧ GzIn w' G L 9 fgH [97] none ∧ Below L w w') := fun w G L h hL =>
    gin_write_ok G L 9 [] [] [97] none none ⟨#[31, 139, 8, 0, 0, 0, 0, 0, 0, 0, 75, 4, 0]⟩ w h hL (by decide) fg_half
  have H9 : ∀ (w : World) (G L : Nat), GzIn w G L 9 fgH [97] none → L ≤ w.heap.size → Hid (Calls Try.prog 21 #[.pointer (some ⟨G, 0, none⟩), .string ⟨#[67, 190, 183, 232, 1, 0, 0, 0, 121]⟩] w fun o w' => o = .returned (.tuple #[.string ⟨#[]⟩, .int .i64 0]) ∧ GzIn w' G L 9 (fgH ++ (fgT ++ [121])) [97] (some 21) ∧ Below L w w') := fun w G L h hL =>
    gin_write_ok G L 9 fgH [97] [97] none (some 21) ⟨#[67, 190, 183, 232, 1, 0, 0, 0, 121]⟩ w h hL (by decide) (fg_all [121])
  have H10 : ∀ (w : World) (G L : Nat), GzIn w G L 9 (fgH ++ (fgT ++ [121])) [97] (some 21) → Hid (Calls Try.prog 23 #[.pointer (some ⟨G, 0, none⟩)] w fun o w' => o = .returned (.bool true) ∧ w = w') := fun w G L h => gin_done G L 9 _ [97] (some 21) w h
  have H11 : ∀ (w : World) (G L : Nat), GzIn w G L 9 (fgH ++ (fgT ++ [121])) [97] (some 21) → Hid (Calls Try.prog 24 #[.pointer (some ⟨G, 0, none⟩)] w fun o w' => o = .returned (.string ⟨#[121]⟩) ∧ w = w') := fun w G L h => gin_rest G L 9 _ [97] (some 21) w h
  generalize fgH ++ (fgT ++ [121]) = fA at *
  generalize fgH = fH at *
  have e6 : (ByteArray.mk #[31, 139, 8, 0, 0, 0, 0, 0, 0, 0, 75, 4, 0, 67, 190, 183, 232, 1, 0, 0, 0]).extract 0 13 = ⟨#[31, 139, 8, 0, 0, 0, 0, 0, 0, 0, 75, 4, 0]⟩ := by decide
  have e8 : (ByteArray.mk #[31, 139, 8, 0, 0, 0, 0, 0, 0, 0, 75, 4, 0, 67, 190, 183, 232, 1, 0, 0, 0]).extract 13 21 = ⟨#[67, 190, 183, 232, 1, 0, 0, 0]⟩ := by decide
  have e9 : (ByteArray.mk #[67, 190, 183, 232, 1, 0, 0, 0]) ++ ⟨#[121]⟩ = ⟨#[67, 190, 183, 232, 1, 0, 0, 0, 121]⟩ := by decide
  go_enter Try.func14, Try.ntmps14
  go_wp2_with (first | (go_at_call 17; with_reducible refine (H1 _).out.mono ?_; rintro q w1 ⟨rfl, hb1⟩; clear H1) | (go_at_call 17; with_reducible refine (H2 _).out.mono ?_; rintro q w2 ⟨rfl, hb2⟩; clear H2) | (go_at_call 17; with_reducible refine (H3 _).out.mono ?_; rintro q w3 ⟨rfl, hb3⟩; clear H3) | (go_at_call 19; with_reducible refine (H6 _).out.mono ?_; rintro q w6 ⟨rfl, rfl⟩; clear H6) | (go_at_call 19; with_reducible refine (H7 _).out.mono ?_; rintro q w7 ⟨G, rfl, h7, hb7⟩; clear H7; have hB7 := belThen (belThen (belThen hb1 hb2) hb3) hb7; replace hB7 := Lib.hid hB7) | (go_at_call 21; with_reducible refine (H8 _ _ _ h7 hb7.size).out.mono ?_; rintro q w8 ⟨rfl, h8, hb8⟩; clear H8; have hL8 := Nat.le_trans hb7.size hb8.size; replace hb8 := Lib.hid hb8) | (go_at_call 21; with_reducible refine (H9 _ _ _ h8 hL8).out.mono ?_; rintro q w9 ⟨rfl, h9, hb9⟩; clear H9; replace hb9 := Lib.hid hb9) | (go_at_call 23; refine (H10 _ _ _ h9).out.mono ?_; rintro q w10 ⟨rfl, rfl⟩) | (go_at_call 24; refine (H11 _ _ _ h9).out.mono ?_; rintro q w10 ⟨rfl, rfl⟩))
  go_ret
  have hLw := (belThen (belThen hb1 hb2) hb3).size
  exact ⟨rfl, (hB7.out.trans (hb8.out.mono hLw)).trans (hb9.out.mono hLw)⟩
end Go.Proofs.Ytcjcmlnbchmnnaa
