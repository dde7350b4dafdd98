/- gzip.New, Done, Rest, One, and Write by a known run: their contracts. -/
import Derived.Test.YtcjcmlnbchmnnaaGHist
namespace Go.Proofs.Ytcjcmlnbchmnnaa
open Go.RowKit

/-- a gzip Reader whose memory lies from block L on -/
def GzIn (w : World) (G L : Nat) (most : Nat) (full out : List UInt8) (fin : Option Nat) : Prop :=
  ∃ R bk, GzAt w G R bk most full out fin ∧ L ≤ G ∧ L ≤ R ∧ ∀ k, bk = some k → L ≤ k
theorem GzAt.lt {w : World} {G R most : Nat} {bk : Option Nat} {full out : List UInt8} {fin : Option Nat} (h : GzAt w G R bk most full out fin) : G < w.heap.size := by
  obtain ⟨g, hG, _⟩ := h; exact hG.lt
theorem GzIn.lt {w : World} {G L most : Nat} {full out : List UInt8} {fin : Option Nat} (h : GzIn w G L most full out fin) : L ≤ G ∧ G < w.heap.size := by
  obtain ⟨R, bk, h1, h2, _⟩ := h; exact ⟨h2, h1.lt⟩
theorem GzIn.below {w w' : World} {G L most : Nat} {full out : List UInt8} {fin : Option Nat} (h : GzIn w G L most full out fin) (hb : Below w.heap.size w w') : GzIn w' G L most full out fin := by
  obtain ⟨R, bk, h1, h2⟩ := h; exact ⟨R, bk, h1.gz (Fr.of_below hb), h2⟩
theorem gz_nil (most : Nat) : Gz.GRun [] most ([], 0, none) := .inl ⟨rfl, rfl⟩
theorem GzAt.run {w : World} {G R most : Nat} {bk : Option Nat} {full out : List UInt8} {fin : Option Nat} (h : GzAt w G R bk most full out fin) : Gz.GRun full most (out, 0, fin) := by
  obtain ⟨g, hG, he, hr, hc⟩ := h
  rcases hc with ⟨k, fl, p, h1, h2, h3, h4, h5, h6, h7, h8, h9, h10, h11, rfl, rfl⟩ | ⟨p, c, h1, h2, h3, h4, h5, h6, h7, rfl, rfl⟩ | ⟨p, j, c, F, u, h1, h2, h3, h4, h5, h6, rfl, h8, h9, h10, h11, h12, h13, rfl⟩
  · exact .inl ⟨h10, rfl⟩
  · exact .inr (.inr ⟨p, c, 0, h1, h5.run, (behind_on h6).symm⟩)
  · have ht := (tail_of h8 h12 h10).1 h13
    exact .inr (.inr ⟨p, c, 0, h1, by rw [h3]; exact h2.run.ended _ h4, (behind_ok h4 ht).symm⟩)
theorem gz_exists (s : List UInt8) (most : Nat) : ∃ out e fin, Gz.GRun s most (out, e, fin) := by
  cases hm : Gz.magP s with
  | more => exact ⟨_, _, _, .inl ⟨hm, rfl⟩⟩
  | bad e => exact ⟨_, _, _, .inr (.inl ⟨e, hm, rfl⟩)⟩
  | ok p =>
    obtain ⟨c, f, hr⟩ := Im.run_exists (s.drop p) most Im.start (Nat.zero_le _) (Nat.zero_le _)
    exact ⟨(Gz.behind s p c f).1, (Gz.behind s p c f).2.1, (Gz.behind s p c f).2.2, .inr (.inr ⟨p, c, f, hm, hr, rfl⟩)⟩
/-! New -/
theorem gnew_no (most : Int) (w : World) (h : most < 0) : Calls Try.prog 19 #[.int .i64 most] w fun e w' => e = .returned (.tuple #[.pointer none, .int .i64 1]) ∧ w = w' := by
  have HN := Lib.hid (new_no most w h)
  go_enter Try.func19, Try.ntmps19
  go_wp2_with (go_at_call 28; refine HN.out.mono ?_; rintro e w' ⟨rfl, rfl⟩)
  go_ret2
  exact ⟨rfl, rfl⟩
theorem gnew_yes (most : Nat) (w : World) (hm : most ≤ 140737488355328) :
    Calls Try.prog 19 #[.int .i64 (most : Int)] w fun o w' => ∃ G, o = .returned (.tuple #[.pointer (some ⟨G, 0, none⟩), .int .i64 0]) ∧ GzIn w' G w.heap.size most [] [] none ∧ Below w.heap.size w w' := by
  have HN := Lib.hid (histB_new most w hm)
  have HQ : ∀ w1, HistB w1 w.heap.size none most [] Im.start → Below w.heap.size w w1 → Hid (∃ G, (.returned (.tuple #[.pointer (some ⟨w1.heap.size, 0, none⟩), .int .i64 0]) : Ending) = .returned (.tuple #[.pointer (some ⟨G, 0, none⟩), .int .i64 0]) ∧ GzIn (w1.alloc (.cells #[.int .i64 0, .string ⟨#[]⟩, .int .i64 0, .int .u8 0, .pointer (some ⟨w.heap.size, 0, none⟩), .int .u32 0, .int .i64 0] 61)) G w.heap.size most [] [] none ∧ Below w.heap.size w (w1.alloc (.cells #[.int .i64 0, .string ⟨#[]⟩, .int .i64 0, .int .u8 0, .pointer (some ⟨w.heap.size, 0, none⟩), .int .u32 0, .int .i64 0] 61))) := by
    intro w1 hH hb
    have hb2 := (Below.refl w1.heap.size w1).alloc (Nat.le_refl _) (.cells #[.int .i64 0, .string ⟨#[]⟩, .int .i64 0, .int .u8 0, .pointer (some ⟨w.heap.size, 0, none⟩), .int .u32 0, .int .i64 0] 61)
    refine Lib.hid ⟨_, rfl, ⟨w.heap.size, none, ⟨⟨0, ⟨#[]⟩, 0, 0, .pointer (some ⟨w.heap.size, 0, none⟩), 0, 0⟩, heap_alloc_new w1 _, rfl, rfl, .inl ⟨0, 0, 0, by omega, rfl, rfl, by omega, rfl, Nat.zero_le _, rfl, rfl, fun u => rfl, rfl, hH.below hb2, rfl, rfl⟩⟩, hb.size, Nat.le_refl _, fun k hk => by cases hk⟩, belThen hb hb2⟩
  go_enter Try.func19, Try.ntmps19
  go_wp2_with (go_at_call 28; refine HN.out.mono ?_; rintro e w1 ⟨rfl, h1, hb1⟩; have HQ1 := HQ w1 h1 hb1; clear h1 hb1 HQ)
  go_ret2
  exact HQ1.out
/-! Done, Rest -/
theorem gdone_any (G : Nat) (g : Gd) (w : World) (hG : GdAt w G g) (b : Bool) (hb : decide (g.st = 8 ∧ g.e = 0) = b) : Calls Try.prog 23 #[.pointer (some ⟨G, 0, none⟩)] w fun e w' => e = .returned (.bool b) ∧ w = w' := by
  have c0 := hG.st
  have c6 := hG.e
  by_cases h1 : g.st = 8
  · have q1 : (g.st == 8) = true := by simpa using h1
    by_cases h2 : g.e = 0
    · have q2 : (g.e == 0) = true := by simpa using h2
      obtain rfl : b = true := by rw [← hb]; exact decide_eq_true ⟨h1, h2⟩
      clear h1 h2 hG hb
      go_enter Try.func23, Try.ntmps23
      go_wp2
      go_ret
      exact ⟨rfl, rfl⟩
    · have q2 : (g.e == 0) = false := by simpa using h2
      obtain rfl : b = false := by rw [← hb]; exact decide_eq_false fun q => h2 q.2
      clear h1 h2 hG hb
      go_enter Try.func23, Try.ntmps23
      go_wp2
      go_ret
      exact ⟨rfl, rfl⟩
  · have q1 : (g.st == 8) = false := by simpa using h1
    obtain rfl : b = false := by rw [← hb]; exact decide_eq_false fun q => h1 q.1
    clear h1 hG hb
    go_enter Try.func23, Try.ntmps23
    go_wp2
    go_ret
    exact ⟨rfl, rfl⟩
theorem grest_any (G : Nat) (g : Gd) (w : World) (hG : GdAt w G g) (b : Bool) (hb : decide (g.st = 8 ∧ g.e = 0) = b) : Calls Try.prog 24 #[.pointer (some ⟨G, 0, none⟩)] w fun e w' => e = .returned (.string (if b then g.s else ⟨#[]⟩)) ∧ w = w' := by
  have HD := Lib.hid (gdone_any G g w hG b hb)
  have c1 := hG.s
  clear hb hG
  cases b with
  | true =>
    go_enter Try.func24, Try.ntmps24
    go_wp2_with (go_at_call 23; refine HD.out.mono ?_; rintro e w' ⟨rfl, rfl⟩)
    go_ret
    exact ⟨rfl, rfl⟩
  | false =>
    go_enter Try.func24, Try.ntmps24
    go_wp2_with (go_at_call 23; refine HD.out.mono ?_; rintro e w' ⟨rfl, rfl⟩)
    go_ret
    exact ⟨rfl, rfl⟩
theorem GzAt.done {w : World} {G R most : Nat} {bk : Option Nat} {full out : List UInt8} {fin : Option Nat} (h : GzAt w G R bk most full out fin) : ∃ g, GdAt w G g ∧ decide (g.st = 8 ∧ g.e = 0) = fin.isSome ∧ ∀ k, fin = some k → g.s.data.toList = full.drop k ∧ k ≤ full.length := by
  obtain ⟨g, hG, he, hr, hc⟩ := h
  refine ⟨g, hG, ?_⟩
  rcases hc with ⟨k, fl, p, h1, h2, h3, h4, h5, h6, h7, h8, h9, h10, h11, rfl, rfl⟩ | ⟨p, c, h1, h2, h3, h4, h5, h6, h7, rfl, rfl⟩ | ⟨p, j, c, F, u, h1, h2, h3, h4, h5, h6, rfl, h8, h9, h10, h11, h12, h13, rfl⟩
  · exact ⟨decide_eq_false (fun q => by omega), fun k hk => by cases hk⟩
  · exact ⟨decide_eq_false (fun q => by omega), fun k hk => by cases hk⟩
  · by_cases hj : j = 2
    · subst hj
      rw [if_pos rfl]
      refine ⟨decide_eq_true ⟨by rw [h9]; rfl, he⟩, fun k hk => ?_⟩
      injection hk with hk
      subst hk
      exact ⟨h11, h10⟩
    · rw [if_neg hj]
      exact ⟨decide_eq_false (fun q => by omega), fun k hk => by cases hk⟩
theorem gin_done (G L most : Nat) (full out : List UInt8) (fin : Option Nat) (w : World) (h : GzIn w G L most full out fin) : Calls Try.prog 23 #[.pointer (some ⟨G, 0, none⟩)] w fun e w' => e = .returned (.bool fin.isSome) ∧ w = w' := by
  obtain ⟨R, bk, h1, _⟩ := h
  obtain ⟨g, hG, hd, _⟩ := h1.done
  exact gdone_any G g w hG _ hd
theorem gin_rest (G L most : Nat) (full out : List UInt8) (fin : Option Nat) (w : World) (h : GzIn w G L most full out fin) : Calls Try.prog 24 #[.pointer (some ⟨G, 0, none⟩)] w fun e w' => e = .returned (.string ⟨(match fin with | some k => full.drop k | none => []).toArray⟩) ∧ w = w' := by
  obtain ⟨R, bk, h1, _⟩ := h
  obtain ⟨g, hG, hd, hr⟩ := h1.done
  refine (grest_any G g w hG _ hd).mono ?_
  rintro o w' ⟨rfl, rfl⟩
  cases fin with
  | none => exact ⟨rfl, rfl⟩
  | some k =>
    obtain ⟨e1, _⟩ := hr k rfl
    refine ⟨?_, rfl⟩
    show Ending.returned (.string g.s) = .returned (.string ⟨(full.drop k).toArray⟩)
    rw [← e1]
/-! Write by a known run -/
theorem gin_write_ok (G L most : Nat) (full out out' : List UInt8) (fin fin' : Option Nat) (t : ByteArray) (w : World) (h : GzIn w G L most full out fin) (hL : L ≤ w.heap.size) (hs : full.length + t.size ≤ 281474976710656) (hrun : Gz.GRun (full ++ t.data.toList) most (out', 0, fin')) :
    Calls Try.prog 21 #[.pointer (some ⟨G, 0, none⟩), .string t] w fun o w' => o = .returned (.tuple #[.string ⟨(out'.drop out.length).toArray⟩, .int .i64 0]) ∧ GzIn w' G L most (full ++ t.data.toList) out' fin' ∧ Below L w w' := by
  obtain ⟨R, bk, h1, h2, h3, h4⟩ := h
  refine (gz_write G R bk most full out fin t w h1 hs).mono ?_
  rintro o w' ⟨hf, out2, e2, fin2, hr2, hx⟩
  have := hr2.det hrun
  injection this with e1 this
  injection this with e2 e3
  subst e1 e2 e3
  rcases hx with ⟨he, _⟩ | ⟨_, ho, bk', hg, hb⟩
  · exact absurd rfl he
  · refine ⟨ho, ⟨R, bk', hg, h2, h3, fun k hk => ?_⟩, hf.to_below hL fun k hk => ?_⟩
    · rcases hb with rfl | hb
      · exact h4 k hk
      · exact Nat.le_trans hL (hb k hk)
    · rcases hk with rfl | rfl | hk
      · exact h2
      · exact h3
      · exact h4 k hk
theorem gin_write_bad (G L most : Nat) (full out out' : List UInt8) (fin fin' : Option Nat) (e : Int) (t : ByteArray) (w : World) (h : GzIn w G L most full out fin) (hL : L ≤ w.heap.size) (hs : full.length + t.size ≤ 281474976710656) (hrun : Gz.GRun (full ++ t.data.toList) most (out', e, fin')) (he : e ≠ 0) :
    Calls Try.prog 21 #[.pointer (some ⟨G, 0, none⟩), .string t] w fun o w' => o = .returned (.tuple #[.string ⟨#[]⟩, .int .i64 e]) ∧ (∃ g', GdAt w' G g' ∧ g'.e = e) ∧ Below L w w' := by
  obtain ⟨R, bk, h1, h2, h3, h4⟩ := h
  refine (gz_write G R bk most full out fin t w h1 hs).mono ?_
  rintro o w' ⟨hf, out2, e2, fin2, hr2, hx⟩
  have := hr2.det hrun
  injection this with e1 this
  injection this with e2 e3
  subst e1 e2 e3
  rcases hx with ⟨_, ho, hg⟩ | ⟨hz, _⟩
  · refine ⟨ho, hg, hf.to_below hL fun k hk => ?_⟩
    rcases hk with rfl | rfl | hk
    · exact h2
    · exact h3
    · exact h4 k hk
  · exact absurd hz he
end Go.Proofs.Ytcjcmlnbchmnnaa
