/- gzip.New, Done, Rest, One, and Write by a known run: their contracts. · gzip.One by a known run; farrierlaw10.fixed tells true. -/
import Derived.Test.YtcjcmlnbchmnnaaGHist
import Derived.Test.YtcjcmlnbchmnnaaIFix
/-! ### GOne -/
namespace Go.Proofs.Ytcjcmlnbchmnnaa
open Go.RowKit

/-- a gzip Reader whose memory lies from block L on -/
def GzIn (w : World) (G L : Nat) (most : Nat) (full out : List UInt8) (fin : Option Nat) : Prop :=
  ∃ R bk, GzAt w G R bk most full out fin ∧ L ≤ G ∧ L ≤ R ∧ ∀ k, bk = some k → L ≤ k
theorem GzAt.lt {w : World} {G R most : Nat} {bk : Option Nat} {full out : List UInt8} {fin : Option Nat} (h : GzAt w G R bk most full out fin) : G < w.heap.size := by
  obtain ⟨g, hG, _⟩ := h; exact hG.lt
theorem GzIn.lt {w : World} {G L most : Nat} {full out : List UInt8} {fin : Option Nat} (h : GzIn w G L most full out fin) : L ≤ G ∧ G < w.heap.size := by
  obtain ⟨R, bk, h1, h2, _⟩ := h; exact ⟨h2, h1.lt⟩
theorem GzIn.below {w w' : World} {G L most : Nat} {full out : List UInt8} {fin : Option Nat} (h : GzIn w G L most full out fin) (hb : Below w.heap.size w w') : GzIn w' G L most full out fin := by
  obtain ⟨R, bk, h1, h2⟩ := h; exact ⟨R, bk, h1.gz (Fr.of_below hb), h2⟩
theorem gz_nil (most : Nat) : Gz.GRun [] most ([], 0, none) := .inl ⟨rfl, rfl⟩
theorem GzAt.run {w : World} {G R most : Nat} {bk : Option Nat} {full out : List UInt8} {fin : Option Nat} (h : GzAt w G R bk most full out fin) : Gz.GRun full most (out, 0, fin) := by
  obtain ⟨g, hG, he, hr, hc⟩ := h
  rcases hc with ⟨k, fl, p, h1, h2, h3, h4, h5, h6, h7, h8, h9, h10, h11, rfl, rfl⟩ | ⟨p, c, h1, h2, h3, h4, h5, h6, h7, rfl, rfl⟩ | ⟨p, j, c, F, u, h1, h2, h3, h4, h5, h6, rfl, h8, h9, h10, h11, h12, h13, rfl⟩
  · exact .inl ⟨h10, rfl⟩
  · exact .inr (.inr ⟨p, c, 0, h1, h5.run, (behind_on h6).symm⟩)
  · have ht := (tail_of h8 h12 h10).1 h13
    exact .inr (.inr ⟨p, c, 0, h1, by rw [h3]; exact h2.run.ended _ h4, (behind_ok h4 ht).symm⟩)
theorem gz_exists (s : List UInt8) (most : Nat) : ∃ out e fin, Gz.GRun s most (out, e, fin) := by
  cases hm : Gz.magP s with
  | more => exact ⟨_, _, _, .inl ⟨hm, rfl⟩⟩
  | bad e => exact ⟨_, _, _, .inr (.inl ⟨e, hm, rfl⟩)⟩
  | ok p =>
    obtain ⟨c, f, hr⟩ := Im.run_exists (s.drop p) most Im.start (Nat.zero_le _) (Nat.zero_le _)
    exact ⟨(Gz.behind s p c f).1, (Gz.behind s p c f).2.1, (Gz.behind s p c f).2.2, .inr (.inr ⟨p, c, f, hm, hr, rfl⟩)⟩
/-! New -/
theorem gnew_no (most : Int) (w : World) (h : most < 0) : Calls Try.prog 19 #[.int .i64 most] w fun e w' => e = .returned (.tuple #[.pointer none, .int .i64 1]) ∧ w = w' := by
  have HN := Lib.hid (new_no most w h)
  go_enter Try.func19, Try.ntmps19
  go_wp2_with (go_at_call 28; refine HN.out.mono ?_; rintro e w' ⟨rfl, rfl⟩)
  go_ret2
  exact ⟨rfl, rfl⟩
theorem gnew_yes (most : Nat) (w : World) (hm : most ≤ 140737488355328) :
    Calls Try.prog 19 #[.int .i64 (most : Int)] w fun o w' => ∃ G, o = .returned (.tuple #[.pointer (some ⟨G, 0, none⟩), .int .i64 0]) ∧ GzIn w' G w.heap.size most [] [] none ∧ Below w.heap.size w w' := by
  have HN := Lib.hid (histB_new most w hm)
  have HQ : ∀ w1, HistB w1 w.heap.size none most [] Im.start → Below w.heap.size w w1 → Hid (∃ G, (.returned (.tuple #[.pointer (some ⟨w1.heap.size, 0, none⟩), .int .i64 0]) : Ending) = .returned (.tuple #[.pointer (some ⟨G, 0, none⟩), .int .i64 0]) ∧ GzIn (w1.alloc (.cells #[.int .i64 0, .string ⟨#[]⟩, .int .i64 0, .int .u8 0, .pointer (some ⟨w.heap.size, 0, none⟩), .int .u32 0, .int .i64 0] 61)) G w.heap.size most [] [] none ∧ Below w.heap.size w (w1.alloc (.cells #[.int .i64 0, .string ⟨#[]⟩, .int .i64 0, .int .u8 0, .pointer (some ⟨w.heap.size, 0, none⟩), .int .u32 0, .int .i64 0] 61))) := by
    intro w1 hH hb
    have hb2 := (Below.refl w1.heap.size w1).alloc (Nat.le_refl _) (.cells #[.int .i64 0, .string ⟨#[]⟩, .int .i64 0, .int .u8 0, .pointer (some ⟨w.heap.size, 0, none⟩), .int .u32 0, .int .i64 0] 61)
    refine Lib.hid ⟨_, rfl, ⟨w.heap.size, none, ⟨⟨0, ⟨#[]⟩, 0, 0, .pointer (some ⟨w.heap.size, 0, none⟩), 0, 0⟩, heap_alloc_new w1 _, rfl, rfl, .inl ⟨0, 0, 0, by omega, rfl, rfl, by omega, rfl, Nat.zero_le _, rfl, rfl, fun u => rfl, rfl, hH.below hb2, rfl, rfl⟩⟩, hb.size, Nat.le_refl _, fun k hk => by cases hk⟩, belThen hb hb2⟩
  go_enter Try.func19, Try.ntmps19
  go_wp2_with (go_at_call 28; refine HN.out.mono ?_; rintro e w1 ⟨rfl, h1, hb1⟩; have HQ1 := HQ w1 h1 hb1; clear h1 hb1 HQ)
  go_ret2
  exact HQ1.out
/-! Done, Rest -/
theorem gdone_any (G : Nat) (g : Gd) (w : World) (hG : GdAt w G g) (b : Bool) (hb : decide (g.st = 8 ∧ g.e = 0) = b) : Calls Try.prog 23 #[.pointer (some ⟨G, 0, none⟩)] w fun e w' => e = .returned (.bool b) ∧ w = w' := by
  have c0 := hG.st
  have c6 := hG.e
  by_cases h1 : g.st = 8
  · have q1 : (g.st == 8) = true := by simpa using h1
    by_cases h2 : g.e = 0
    · have q2 : (g.e == 0) = true := by simpa using h2
      obtain rfl : b = true := by rw [← hb]; exact decide_eq_true ⟨h1, h2⟩
      clear h1 h2 hG hb
      go_enter Try.func23, Try.ntmps23
      go_wp2
      go_ret
      exact ⟨rfl, rfl⟩
    · have q2 : (g.e == 0) = false := by simpa using h2
      obtain rfl : b = false := by rw [← hb]; exact decide_eq_false fun q => h2 q.2
      clear h1 h2 hG hb
      go_enter Try.func23, Try.ntmps23
      go_wp2
      go_ret
      exact ⟨rfl, rfl⟩
  · have q1 : (g.st == 8) = false := by simpa using h1
    obtain rfl : b = false := by rw [← hb]; exact decide_eq_false fun q => h1 q.1
    clear h1 hG hb
    go_enter Try.func23, Try.ntmps23
    go_wp2
    go_ret
    exact ⟨rfl, rfl⟩
theorem grest_any (G : Nat) (g : Gd) (w : World) (hG : GdAt w G g) (b : Bool) (hb : decide (g.st = 8 ∧ g.e = 0) = b) : Calls Try.prog 24 #[.pointer (some ⟨G, 0, none⟩)] w fun e w' => e = .returned (.string (if b then g.s else ⟨#[]⟩)) ∧ w = w' := by
  have HD := Lib.hid (gdone_any G g w hG b hb)
  have c1 := hG.s
  clear hb hG
  cases b with
  | true =>
    go_enter Try.func24, Try.ntmps24
    go_wp2_with (go_at_call 23; refine HD.out.mono ?_; rintro e w' ⟨rfl, rfl⟩)
    go_ret
    exact ⟨rfl, rfl⟩
  | false =>
    go_enter Try.func24, Try.ntmps24
    go_wp2_with (go_at_call 23; refine HD.out.mono ?_; rintro e w' ⟨rfl, rfl⟩)
    go_ret
    exact ⟨rfl, rfl⟩
theorem GzAt.done {w : World} {G R most : Nat} {bk : Option Nat} {full out : List UInt8} {fin : Option Nat} (h : GzAt w G R bk most full out fin) : ∃ g, GdAt w G g ∧ decide (g.st = 8 ∧ g.e = 0) = fin.isSome ∧ ∀ k, fin = some k → g.s.data.toList = full.drop k ∧ k ≤ full.length := by
  obtain ⟨g, hG, he, hr, hc⟩ := h
  refine ⟨g, hG, ?_⟩
  rcases hc with ⟨k, fl, p, h1, h2, h3, h4, h5, h6, h7, h8, h9, h10, h11, rfl, rfl⟩ | ⟨p, c, h1, h2, h3, h4, h5, h6, h7, rfl, rfl⟩ | ⟨p, j, c, F, u, h1, h2, h3, h4, h5, h6, rfl, h8, h9, h10, h11, h12, h13, rfl⟩
  · exact ⟨decide_eq_false (fun q => by omega), fun k hk => by cases hk⟩
  · exact ⟨decide_eq_false (fun q => by omega), fun k hk => by cases hk⟩
  · by_cases hj : j = 2
    · subst hj
      rw [if_pos rfl]
      refine ⟨decide_eq_true ⟨by rw [h9]; rfl, he⟩, fun k hk => ?_⟩
      injection hk with hk
      subst hk
      exact ⟨h11, h10⟩
    · rw [if_neg hj]
      exact ⟨decide_eq_false (fun q => by omega), fun k hk => by cases hk⟩
theorem gin_done (G L most : Nat) (full out : List UInt8) (fin : Option Nat) (w : World) (h : GzIn w G L most full out fin) : Calls Try.prog 23 #[.pointer (some ⟨G, 0, none⟩)] w fun e w' => e = .returned (.bool fin.isSome) ∧ w = w' := by
  obtain ⟨R, bk, h1, _⟩ := h
  obtain ⟨g, hG, hd, _⟩ := h1.done
  exact gdone_any G g w hG _ hd
theorem gin_rest (G L most : Nat) (full out : List UInt8) (fin : Option Nat) (w : World) (h : GzIn w G L most full out fin) : Calls Try.prog 24 #[.pointer (some ⟨G, 0, none⟩)] w fun e w' => e = .returned (.string ⟨(match fin with | some k => full.drop k | none => []).toArray⟩) ∧ w = w' := by
  obtain ⟨R, bk, h1, _⟩ := h
  obtain ⟨g, hG, hd, hr⟩ := h1.done
  refine (grest_any G g w hG _ hd).mono ?_
  rintro o w' ⟨rfl, rfl⟩
  cases fin with
  | none => exact ⟨rfl, rfl⟩
  | some k =>
    obtain ⟨e1, _⟩ := hr k rfl
    refine ⟨?_, rfl⟩
    show Ending.returned (.string g.s) = .returned (.string ⟨(full.drop k).toArray⟩)
    rw [← e1]
/-! Write by a known run -/
theorem gin_write_ok (G L most : Nat) (full out out' : List UInt8) (fin fin' : Option Nat) (t : ByteArray) (w : World) (h : GzIn w G L most full out fin) (hL : L ≤ w.heap.size) (hs : full.length + t.size ≤ 281474976710656) (hrun : Gz.GRun (full ++ t.data.toList) most (out', 0, fin')) :
    Calls Try.prog 21 #[.pointer (some ⟨G, 0, none⟩), .string t] w fun o w' => o = .returned (.tuple #[.string ⟨(out'.drop out.length).toArray⟩, .int .i64 0]) ∧ GzIn w' G L most (full ++ t.data.toList) out' fin' ∧ Below L w w' := by
  obtain ⟨R, bk, h1, h2, h3, h4⟩ := h
  refine (gz_write G R bk most full out fin t w h1 hs).mono ?_
  rintro o w' ⟨hf, out2, e2, fin2, hr2, hx⟩
  have := hr2.det hrun
  injection this with e1 this
  injection this with e2 e3
  subst e1 e2 e3
  rcases hx with ⟨he, _⟩ | ⟨_, ho, bk', hg, hb⟩
  · exact absurd rfl he
  · refine ⟨ho, ⟨R, bk', hg, h2, h3, fun k hk => ?_⟩, hf.to_below hL fun k hk => ?_⟩
    · rcases hb with rfl | hb
      · exact h4 k hk
      · exact Nat.le_trans hL (hb k hk)
    · rcases hk with rfl | rfl | hk
      · exact h2
      · exact h3
      · exact h4 k hk
theorem gin_write_bad (G L most : Nat) (full out out' : List UInt8) (fin fin' : Option Nat) (e : Int) (t : ByteArray) (w : World) (h : GzIn w G L most full out fin) (hL : L ≤ w.heap.size) (hs : full.length + t.size ≤ 281474976710656) (hrun : Gz.GRun (full ++ t.data.toList) most (out', e, fin')) (he : e ≠ 0) :
    Calls Try.prog 21 #[.pointer (some ⟨G, 0, none⟩), .string t] w fun o w' => o = .returned (.tuple #[.string ⟨#[]⟩, .int .i64 e]) ∧ (∃ g', GdAt w' G g' ∧ g'.e = e) ∧ Below L w w' := by
  obtain ⟨R, bk, h1, h2, h3, h4⟩ := h
  refine (gz_write G R bk most full out fin t w h1 hs).mono ?_
  rintro o w' ⟨hf, out2, e2, fin2, hr2, hx⟩
  have := hr2.det hrun
  injection this with e1 this
  injection this with e2 e3
  subst e1 e2 e3
  rcases hx with ⟨_, ho, hg⟩ | ⟨hz, _⟩
  · refine ⟨ho, hg, hf.to_below hL fun k hk => ?_⟩
    rcases hk with rfl | rfl | hk
    · exact h2
    · exact h3
    · exact h4 k hk
  · exact absurd hz he
end Go.Proofs.Ytcjcmlnbchmnnaa
/-! ### GFixed -/
namespace Go.Proofs.Ytcjcmlnbchmnnaa
open Go.RowKit

def gO (out : List UInt8) (e : Int) (fin : Option Nat) : List UInt8 := if e = 0 ∧ fin.isSome then out else []
def gN (e : Int) (fin : Option Nat) : Nat := if e = 0 then fin.getD 0 else 0
def gE (e : Int) (fin : Option Nat) : Int := if e ≠ 0 then e else if fin.isSome then 0 else 102
theorem gone_neg (most : Int) (s : ByteArray) (w : World) (h : most < 0) :
    Calls Try.prog 17 #[.string s, .int .i64 most] w fun o w' => o = .returned (.tuple #[.string ⟨#[]⟩, .int .i64 0, .int .i64 1]) ∧ w = w' := by
  have HN := Lib.hid (gnew_no most w h)
  go_enter Try.func17, Try.ntmps17
  go_wp2_with (go_at_call 19; refine HN.out.mono ?_; rintro e w' ⟨rfl, rfl⟩)
  go_ret3
  exact ⟨rfl, rfl⟩
theorem gz_fin {s : List UInt8} {most : Nat} {out : List UInt8} {e : Int} {k : Nat} (h : Gz.GRun s most (out, e, some k)) : e = 0 ∧ k ≤ s.length := by
  rcases h with ⟨_, h⟩ | ⟨e', _, h⟩ | ⟨p, c, f, h1, h2, h⟩
  · injection h with _ h; injection h with _ h; cases h
  · injection h with _ h; injection h with _ h; cases h
  · unfold Gz.behind at h
    split at h
    · injection h with _ h; injection h with _ h; cases h
    · split at h
      · injection h with _ h; injection h with _ h; cases h
      · split at h
        · injection h with _ h
          have := Gz.tailP_fin h.symm
          exact ⟨this.1, this.2.2⟩
        · rename_i hx
          injection h with _ h
          rw [← h] at hx
          have := Gz.tailP_fin h.symm
          exact absurd this.1 hx
def GOneIn (out : List UInt8) (e : Int) (fin : Option Nat) (w : World) (o : Ending) (w' : World) : Prop := o = .returned (.tuple #[.string ⟨(gO out e fin).toArray⟩, .int .i64 (gN e fin : Int), .int .i64 (gE e fin)]) ∧ Below w.heap.size w w'
set_option maxHeartbeats 1000000 in
theorem gone_run (most : Nat) (s : ByteArray) (w : World) (out : List UInt8) (e : Int) (fin : Option Nat) (hm : most ≤ 140737488355328) (hs : s.size ≤ 281474976710656) (hrun : Gz.GRun s.data.toList most (out, e, fin)) :
    Calls Try.prog 17 #[.string s, .int .i64 (most : Int)] w (GOneIn out e fin w) := by
  have HN := Lib.hid (gnew_yes most w hm)
  by_cases he : e = 0
  · subst he
    have HW := fun G w1 h1 hL => Lib.hid (gin_write_ok G w.heap.size most [] [] out none fin s w1 h1 hL (by rw [List.length_nil]; omega) hrun)
    have HD := fun G w1 h1 => Lib.hid (gin_done G w.heap.size most ([] ++ s.data.toList) out fin w1 h1)
    have HR := fun G w1 h1 => Lib.hid (gin_rest G w.heap.size most ([] ++ s.data.toList) out fin w1 h1)
    cases fin with
    | some k =>
      have hk := (gz_fin hrun).2
      rw [blen] at hk
      have hrs : (ByteArray.mk (s.data.toList.drop k).toArray).size = s.size - k := by rw [← blen]; simp
      have ew : IntKind.i64.wrap ((s.size : Int) - ((s.size - k : Nat) : Int)) = (k : Int) := by rw [IntWalk.i64_in _ (by omega)]; omega
      have HP : Hid (∀ w', Below w.heap.size w w' → GOneIn out 0 (some k) w (.returned (.tuple #[.string ⟨(out.drop ([] : List UInt8).length).toArray⟩, .int .i64 (k : Int), .int .i64 0])) w') := fun w' hb => ⟨rfl, hb⟩
      simp only [List.nil_append, Option.isSome_some] at HW HD HR
      simp only [List.length_nil] at HP HW
      clear hk hrun
      generalize s.data.toList.drop k = dd at *
      generalize out.drop 0 = oo at *
      generalize s.size - k = rr at *
      go_enter Try.func17, Try.ntmps17
      go_wp2_with (first | (go_at_call 19; refine HN.out.mono ?_; rintro q w1 ⟨G, rfl, h1, hb1⟩; clear HN) | (go_at_call 21; refine (HW _ _ h1 hb1.size).out.mono ?_; rintro q w2 ⟨rfl, h2, hb2⟩; clear HW) | (go_at_call 23; refine (HD _ _ h2).out.mono ?_; rintro q w3 ⟨rfl, rfl⟩) | (go_at_call 24; refine (HR _ _ h2).out.mono ?_; rintro q w3 ⟨rfl, rfl⟩))
      go_ret3
      exact HP.out _ (hb1.trans hb2)
    | none =>
      have HP : Hid (∀ w', Below w.heap.size w w' → GOneIn out 0 none w (.returned (.tuple #[.string ⟨#[]⟩, .int .i64 0, .int .i64 102])) w') := fun w' hb => ⟨rfl, hb⟩
      simp only [List.nil_append, Option.isSome_none] at HW HD
      clear HR hrun
      generalize out.drop ([] : List UInt8).length = oo at *
      go_enter Try.func17, Try.ntmps17
      go_wp2_with (first | (go_at_call 19; refine HN.out.mono ?_; rintro q w1 ⟨G, rfl, h1, hb1⟩; clear HN) | (go_at_call 21; refine (HW _ _ h1 hb1.size).out.mono ?_; rintro q w2 ⟨rfl, h2, hb2⟩; clear HW) | (go_at_call 23; refine (HD _ _ h2).out.mono ?_; rintro q w3 ⟨rfl, rfl⟩))
      go_ret3
      exact HP.out _ (hb1.trans hb2)
  · have HW := fun G w1 h1 hL => Lib.hid (gin_write_bad G w.heap.size most [] [] out none fin e s w1 h1 hL (by rw [List.length_nil]; omega) hrun he)
    have q1 : (e != 0) = true := by simpa using he
    have HP : Hid (∀ w', Below w.heap.size w w' → GOneIn out e fin w (.returned (.tuple #[.string ⟨#[]⟩, .int .i64 0, .int .i64 e])) w') := fun w' hb => by
      unfold GOneIn gO gN gE
      rw [if_neg (fun q => he q.1), if_neg he, if_pos he]; exact ⟨rfl, hb⟩
    clear he hrun
    go_enter Try.func17, Try.ntmps17
    go_wp2_with (first | (go_at_call 19; refine HN.out.mono ?_; rintro q w1 ⟨G, rfl, h1, hb1⟩; clear HN) | (go_at_call 21; refine (HW _ _ h1 hb1.size).out.mono ?_; rintro q w2 ⟨rfl, h2, hb2⟩; clear HW))
    go_ret3
    exact HP.out _ (hb1.trans hb2)
/-! the streams that 'fixed' asks -/
def fgH : List UInt8 := [31, 139, 8, 0, 0, 0, 0, 0, 0, 0, 75, 4, 0]
def fgT : List UInt8 := [67, 190, 183, 232, 1, 0, 0, 0]
theorem fg_mag (t : List UInt8) : Gz.magP (fgH ++ t) = .ok 10 := by
  have h : Gz.magP fgH = .ok 10 := by kernel_rfl
  rcases Gz.magP_app fgH t with q | q
  · rw [h] at q; cases q
  · rw [q, h]
theorem fg_run (t : List UInt8) : ∃ c, Im.Run ((fgH ++ t).drop 10) 9 Im.start c 0 ∧ c.state = 3 ∧ c.out = [97] ∧ c.pos / 8 = 3 := by
  obtain ⟨b, h1, h2, h3, h4⟩ := Im.fx_lit
  exact ⟨b, h1.ended t h2, h2, h3, by rw [h4]⟩
theorem fg_half : Gz.GRun fgH 9 ([97], 0, none) := by
  obtain ⟨c, h1, h2, h3, h4⟩ := fg_run []
  rw [List.append_nil] at h1
  have h0 := fg_mag []
  rw [List.append_nil] at h0
  refine .inr (.inr ⟨10, c, 0, h0, h1, ?_⟩)
  rw [behind_ok (fin := none) h2 (by rw [h4, h3]; kernel_rfl), h3]
theorem fg_crc : Cm.crc 0 [97] = 3904355907 := by decide +kernel
theorem fg_all (t : List UInt8) : Gz.GRun (fgH ++ (fgT ++ t)) 9 ([97], 0, some 21) := by
  obtain ⟨c, h1, h2, h3, h4⟩ := fg_run (fgT ++ t)
  refine .inr (.inr ⟨10, c, 0, fg_mag _, h1, ?_⟩)
  have ht : Gz.tailP (fgH ++ fgT) 13 [97] = (0, some 21) := by
    unfold Gz.tailP
    rw [if_neg (by decide), fg_crc, if_neg (by decide), if_neg (by decide), if_neg (by decide)]
  have ht2 : Gz.tailP (fgH ++ (fgT ++ t)) 13 [97] = (0, some 21) := by
    rw [← List.append_assoc, Gz.tailP_app t (by rw [ht]; intro q; cases q), ht]
  rw [behind_ok (fin := some 21) h2 (by rw [h4, h3]; exact ht2), h3]
theorem fg_form : Gz.GRun [30] 9 ([], 100, none) := .inr (.inl ⟨100, by kernel_rfl, rfl⟩)
theorem fg_end : Gz.GRun [31] 9 ([], 0, none) := .inl ⟨by kernel_rfl, rfl⟩
set_option maxHeartbeats 2000000 in
set_option maxRecDepth 100000 in
theorem fixed10 (w : World) : Calls Try.prog 14 #[] w fun o w' => o = .returned (.bool true) ∧ Below w.heap.size w w' := by
  have H1 : ∀ w : World, Hid (Calls Try.prog 17 #[.string ⟨#[31, 139, 8, 0, 0, 0, 0, 0, 0, 0, 75, 4, 0, 67, 190, 183, 232, 1, 0, 0, 0, 120]⟩, .int .i64 9] w fun o w' => o = .returned (.tuple #[.string ⟨#[97]⟩, .int .i64 21, .int .i64 0]) ∧ Below w.heap.size w w') := fun w => gone_run 9 ⟨#[31, 139, 8, 0, 0, 0, 0, 0, 0, 0, 75, 4, 0, 67, 190, 183, 232, 1, 0, 0, 0, 120]⟩ w [97] 0 (some 21) (by omega) (by decide) (fg_all [120])
  have H2 : ∀ w : World, Hid (Calls Try.prog 17 #[.string ⟨#[30]⟩, .int .i64 9] w fun o w' => o = .returned (.tuple #[.string ⟨#[]⟩, .int .i64 0, .int .i64 100]) ∧ Below w.heap.size w w') := fun w => gone_run 9 ⟨#[30]⟩ w [] 100 none (by omega) (by decide) fg_form
  have H3 : ∀ w : World, Hid (Calls Try.prog 17 #[.string ⟨#[31]⟩, .int .i64 9] w fun o w' => o = .returned (.tuple #[.string ⟨#[]⟩, .int .i64 0, .int .i64 102]) ∧ Below w.heap.size w w') := fun w => gone_run 9 ⟨#[31]⟩ w [] 0 none (by omega) (by decide) fg_end
  have H6 : ∀ w : World, Hid (Calls Try.prog 19 #[.int .i64 (-1)] w fun o w' => o = .returned (.tuple #[.pointer none, .int .i64 1]) ∧ w = w') := fun w => gnew_no (-1) w (by omega)
  have H7 : ∀ w : World, Hid (Calls Try.prog 19 #[.int .i64 9] w fun o w' => ∃ G, o = .returned (.tuple #[.pointer (some ⟨G, 0, none⟩), .int .i64 0]) ∧ GzIn w' G w.heap.size 9 [] [] none ∧ Below w.heap.size w w') := fun w => gnew_yes 9 w (by omega)
  have H8 : ∀ (w : World) (G L : Nat), GzIn w G L 9 [] [] none → L ≤ w.heap.size → Hid (Calls Try.prog 21 #[.pointer (some ⟨G, 0, none⟩), .string ⟨#[31, 139, 8, 0, 0, 0, 0, 0, 0, 0, 75, 4, 0]⟩] w fun o w' => o = .returned (.tuple #[.string ⟨#[97]⟩, .int .i64 0]) ∧ GzIn w' G L 9 fgH [97] none ∧ Below L w w') := fun w G L h hL =>
    gin_write_ok G L 9 [] [] [97] none none ⟨#[31, 139, 8, 0, 0, 0, 0, 0, 0, 0, 75, 4, 0]⟩ w h hL (by decide) fg_half
  have H9 : ∀ (w : World) (G L : Nat), GzIn w G L 9 fgH [97] none → L ≤ w.heap.size → Hid (Calls Try.prog 21 #[.pointer (some ⟨G, 0, none⟩), .string ⟨#[67, 190, 183, 232, 1, 0, 0, 0, 121]⟩] w fun o w' => o = .returned (.tuple #[.string ⟨#[]⟩, .int .i64 0]) ∧ GzIn w' G L 9 (fgH ++ (fgT ++ [121])) [97] (some 21) ∧ Below L w w') := fun w G L h hL =>
    gin_write_ok G L 9 fgH [97] [97] none (some 21) ⟨#[67, 190, 183, 232, 1, 0, 0, 0, 121]⟩ w h hL (by decide) (fg_all [121])
  have H10 : ∀ (w : World) (G L : Nat), GzIn w G L 9 (fgH ++ (fgT ++ [121])) [97] (some 21) → Hid (Calls Try.prog 23 #[.pointer (some ⟨G, 0, none⟩)] w fun o w' => o = .returned (.bool true) ∧ w = w') := fun w G L h => gin_done G L 9 _ [97] (some 21) w h
  have H11 : ∀ (w : World) (G L : Nat), GzIn w G L 9 (fgH ++ (fgT ++ [121])) [97] (some 21) → Hid (Calls Try.prog 24 #[.pointer (some ⟨G, 0, none⟩)] w fun o w' => o = .returned (.string ⟨#[121]⟩) ∧ w = w') := fun w G L h => gin_rest G L 9 _ [97] (some 21) w h
  generalize fgH ++ (fgT ++ [121]) = fA at *
  generalize fgH = fH at *
  have e6 : (ByteArray.mk #[31, 139, 8, 0, 0, 0, 0, 0, 0, 0, 75, 4, 0, 67, 190, 183, 232, 1, 0, 0, 0]).extract 0 13 = ⟨#[31, 139, 8, 0, 0, 0, 0, 0, 0, 0, 75, 4, 0]⟩ := by decide
  have e8 : (ByteArray.mk #[31, 139, 8, 0, 0, 0, 0, 0, 0, 0, 75, 4, 0, 67, 190, 183, 232, 1, 0, 0, 0]).extract 13 21 = ⟨#[67, 190, 183, 232, 1, 0, 0, 0]⟩ := by decide
  have e9 : (ByteArray.mk #[67, 190, 183, 232, 1, 0, 0, 0]) ++ ⟨#[121]⟩ = ⟨#[67, 190, 183, 232, 1, 0, 0, 0, 121]⟩ := by decide
  go_enter Try.func14, Try.ntmps14
  go_wp2_with (first | (go_at_call 17; with_reducible refine (H1 _).out.mono ?_; rintro q w1 ⟨rfl, hb1⟩; clear H1) | (go_at_call 17; with_reducible refine (H2 _).out.mono ?_; rintro q w2 ⟨rfl, hb2⟩; clear H2) | (go_at_call 17; with_reducible refine (H3 _).out.mono ?_; rintro q w3 ⟨rfl, hb3⟩; clear H3) | (go_at_call 19; with_reducible refine (H6 _).out.mono ?_; rintro q w6 ⟨rfl, rfl⟩; clear H6) | (go_at_call 19; with_reducible refine (H7 _).out.mono ?_; rintro q w7 ⟨G, rfl, h7, hb7⟩; clear H7; have hB7 := belThen (belThen (belThen hb1 hb2) hb3) hb7; replace hB7 := Lib.hid hB7) | (go_at_call 21; with_reducible refine (H8 _ _ _ h7 hb7.size).out.mono ?_; rintro q w8 ⟨rfl, h8, hb8⟩; clear H8; have hL8 := Nat.le_trans hb7.size hb8.size; replace hb8 := Lib.hid hb8) | (go_at_call 21; with_reducible refine (H9 _ _ _ h8 hL8).out.mono ?_; rintro q w9 ⟨rfl, h9, hb9⟩; clear H9; replace hb9 := Lib.hid hb9) | (go_at_call 23; refine (H10 _ _ _ h9).out.mono ?_; rintro q w10 ⟨rfl, rfl⟩) | (go_at_call 24; refine (H11 _ _ _ h9).out.mono ?_; rintro q w10 ⟨rfl, rfl⟩))
  go_ret
  have hLw := (belThen (belThen hb1 hb2) hb3).size
  exact ⟨rfl, (hB7.out.trans (hb8.out.mono hLw)).trans (hb9.out.mono hLw)⟩
end Go.Proofs.Ytcjcmlnbchmnnaa
