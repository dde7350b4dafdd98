/- farrierlaw08.fixed: the calls whose answers the document fixes: it returns true. -/
import Derived.Test.YtlhoahnjedpgaaaRead
import Derived.Test.YtlhoahnjedpgaaaSame
import Derived.Test.YtlhoahnjedpgaaaOwn
namespace Go.Proofs.Ytlhoahnjedpgaaa
open Go.RowKit

def fxL : List Nat := [3, 3, 3, 3, 3, 2, 4, 4]
theorem fx_short : Hm.Short fxL := by intro n hn; have : ∀ n ∈ fxL, n ≤ 15 := by decide
                                      exact this n hn
theorem fx_err : Hm.err fxL = 0 := by decide +kernel
theorem fx_share : Hm.share fxL ≤ 32768 := by decide +kernel
theorem fx_codes : (List.range 8).map (Hm.code fxL) = [2, 3, 4, 5, 6, 0, 14, 15] := by decide +kernel
theorem fx_read1 : Hm.read fxL [15] 0 = (7, 4, 0) := by decide +kernel
theorem fx_read2 : Hm.read fxL [] 0 = (0, 0, 84) := by decide +kernel
theorem codes_sints {w : World} {g : Nat} {ns : List Nat} (h : w.rowIs g 3 ns.length (cdf ns)) : SInts w (some ⟨g, 0, none⟩) (ints ((List.range ns.length).map (Hm.code ns))) :=
  sints_row (f := fun i => (Hm.code ns i : Int)) h fun j x hj => by
    unfold ints at hj
    rw [List.map_map, List.getElem?_map] at hj
    rcases Nat.lt_or_ge j ns.length with h' | h'
    · rw [List.getElem?_range h'] at hj; simp at hj; exact ⟨h', hj.symm⟩
    · rw [List.getElem?_eq_none (by simpa using h')] at hj; simp at hj

theorem rowBelow {w w' : World} {g n : Nat} {T : TypeId} {f : Nat → Value} (h : w.rowIs g T n f) (hb : Below w.heap.size w w') : w'.rowIs g T n f := h.of_block (hb.block g h.lt)
theorem belLit {w w' : World} {o : Obj} (h : Below (w.alloc o).heap.size (w.alloc o) w') : Below w.heap.size w w' := ((Below.refl w.heap.size w).alloc (Nat.le_refl _) o).trans (h.mono (by simp))
theorem lit_codes (w : World) (vs : Array Value) (T : TypeId) (ns : List Nat) (hv : vs.toList = (ints ns).map (Value.int .i64)) (hsh : Hm.Short ns) (hl : ns.length ≤ 288) (herr : Hm.err ns = 0) (hsr : Hm.share ns ≤ 32768) :
    Calls Try.prog 9 #[.slice (some ⟨w.heap.size, 0, none⟩) ns.length ns.length] (w.alloc (.cells vs T)) (CodesIn ns w) :=
  (codes_in _ _ ns _ (sints_lit w vs T _ hv) hsh hl herr hsr).mono fun _ _ ⟨g, h1, h2, h3, h4⟩ => ⟨g, by simp at h1; omega, h2, h3, belLit h4⟩
theorem lit_codes_err (w : World) (vs : Array Value) (T : TypeId) (ns : List Nat) (hv : vs.toList = (ints ns).map (Value.int .i64)) (hsh : Hm.Short ns) (hl : ns.length ≤ 288) (herr : Hm.err ns ≠ 0) :
    Calls Try.prog 9 #[.slice (some ⟨w.heap.size, 0, none⟩) ns.length ns.length] (w.alloc (.cells vs T)) fun e w' => e = .returned (.tuple #[.slice none 0 0, .int .i64 (Hm.err ns)]) ∧ Below w.heap.size w w' :=
  (codes_err _ _ ns _ (sints_lit w vs T _ hv) hsh hl herr).mono fun _ _ ⟨h1, h2⟩ => ⟨h1, belLit h2⟩
theorem lit_new (w : World) (vs : Array Value) (T : TypeId) (ns : List Nat) (hv : vs.toList = (ints ns).map (Value.int .i64)) (hsh : Hm.Short ns) (hl : ns.length ≤ 288) (herr : Hm.err ns = 0) (hsr : Hm.share ns ≤ 32768) :
    Calls Try.prog 10 #[.slice (some ⟨w.heap.size, 0, none⟩) ns.length ns.length] (w.alloc (.cells vs T)) (NewIn ns w) :=
  (new_in _ _ ns _ (sints_lit w vs T _ hv) hsh hl herr hsr).mono fun _ _ ⟨g, h1, h2, h3, h4⟩ => ⟨g, by simp at h1; omega, h2, h3, belLit h4⟩
theorem lit_new_out (w : World) (vs : Array Value) (T : TypeId) (ls : List Int) (hv : vs.toList = ls.map (Value.int .i64)) (hm : ls.length ≤ maxLen) (hbad : BadL ls) :
    Calls Try.prog 10 #[.slice (some ⟨w.heap.size, 0, none⟩) ls.length ls.length] (w.alloc (.cells vs T)) fun e w' => e = .returned (.tuple #[.pointer none, .int .i64 80]) ∧ Below w.heap.size w w' :=
  (new_out _ _ ls _ (sints_lit w vs T _ hv) hm hbad).mono fun _ _ ⟨h1, h2⟩ => ⟨h1, belLit h2⟩
theorem short_of (ns : List Nat) (h : ns.all (· ≤ 15) = true) : Hm.Short ns := fun n hn => by have := List.all_eq_true.1 h n hn; simpa using this
theorem fx_c1 (w : World) (T : TypeId) : Calls Try.prog 9 #[.slice (some ⟨w.heap.size, 0, none⟩) 8 8] (w.alloc (.cells #[.int .i64 3, .int .i64 3, .int .i64 3, .int .i64 3, .int .i64 3, .int .i64 2, .int .i64 4, .int .i64 4] T)) (CodesIn fxL w) :=
  lit_codes w _ T fxL rfl fx_short (by decide) fx_err fx_share
theorem fx_c2 (w : World) (T : TypeId) : Calls Try.prog 9 #[.slice (some ⟨w.heap.size, 0, none⟩) 3 3] (w.alloc (.cells #[.int .i64 1, .int .i64 1, .int .i64 1] T)) fun e w' => e = .returned (.tuple #[.slice none 0 0, .int .i64 81]) ∧ Below w.heap.size w w' :=
  lit_codes_err w _ T [1, 1, 1] rfl (short_of _ rfl) (by decide) (by decide +kernel)
theorem fx_c3 (w : World) (T : TypeId) : Calls Try.prog 9 #[.slice (some ⟨w.heap.size, 0, none⟩) 1 1] (w.alloc (.cells #[.int .i64 2] T)) fun e w' => e = .returned (.tuple #[.slice none 0 0, .int .i64 82]) ∧ Below w.heap.size w w' :=
  lit_codes_err w _ T [2] rfl (short_of _ rfl) (by decide) (by decide +kernel)
theorem fx_c4 (w : World) (T : TypeId) : Calls Try.prog 9 #[.slice (some ⟨w.heap.size, 0, none⟩) 2 2] (w.alloc (.cells #[.int .i64 0, .int .i64 1] T)) (CodesIn [0, 1] w) :=
  lit_codes w _ T [0, 1] rfl (short_of _ rfl) (by decide) (by decide +kernel) (by decide +kernel)
theorem fx_n1 (w : World) (T : TypeId) : Calls Try.prog 10 #[.slice (some ⟨w.heap.size, 0, none⟩) 8 8] (w.alloc (.cells #[.int .i64 3, .int .i64 3, .int .i64 3, .int .i64 3, .int .i64 3, .int .i64 2, .int .i64 4, .int .i64 4] T)) (NewIn fxL w) :=
  lit_new w _ T fxL rfl fx_short (by decide) fx_err fx_share
theorem fx_n2 (w : World) (T : TypeId) : Calls Try.prog 10 #[.slice (some ⟨w.heap.size, 0, none⟩) 1 1] (w.alloc (.cells #[.int .i64 16] T)) fun e w' => e = .returned (.tuple #[.pointer none, .int .i64 80]) ∧ Below w.heap.size w w' :=
  lit_new_out w _ T [16] rfl (by decide) (.inr ⟨0, 16, rfl, by decide⟩)
theorem fx_r1 (w : World) (T : Nat) (h : TableAt w T fxL) : Calls Try.prog 13 #[.pointer (some ⟨T, 0, none⟩), .string ⟨#[15]⟩, .int .i64 0] w fun e w' => e = .returned (.tuple #[.int .i64 7, .int .i64 4, .int .i64 0]) ∧ Below w.heap.size w w' := by
  have := read_in T fxL ⟨#[15]⟩ 0 w h fx_short (by decide) (by decide)
  rw [show (ByteArray.mk #[15]).data.toList = [15] from rfl, fx_read1] at this; exact this
theorem fx_r2 (w : World) (T : Nat) (h : TableAt w T fxL) : Calls Try.prog 13 #[.pointer (some ⟨T, 0, none⟩), .string ⟨#[]⟩, .int .i64 0] w fun e w' => e = .returned (.tuple #[.int .i64 0, .int .i64 0, .int .i64 84]) ∧ Below w.heap.size w w' := by
  have := read_in T fxL ⟨#[]⟩ 0 w h fx_short (by decide) (by decide)
  rw [show (ByteArray.mk #[]).data.toList = [] from rfl, fx_read2] at this; exact this
theorem lit_same (w : World) (g : Nat) (ca : Nat) (ns : List Nat) (vs : Array Value) (T : TypeId) (ls : List Int) (h : w.rowIs g 3 ns.length (cdf ns)) (hv : vs.toList = ls.map (Value.int .i64)) (hl : ns.length ≤ 288)
    (he : ints ((List.range ns.length).map (Hm.code ns)) = ls) :
    Calls Try.prog 11 #[.slice (some ⟨g, 0, none⟩) ns.length ca, .slice (some ⟨w.heap.size, 0, none⟩) ls.length ls.length] (w.alloc (.cells vs T)) fun e w' => e = .returned (.bool true) ∧ Below w.heap.size w w' := by
  have hh := same_any (some ⟨g, 0, none⟩) (some ⟨w.heap.size, 0, none⟩) ca ls.length _ ls (w.alloc (.cells vs T)) (codes_sints (h.alloc _)) (sints_lit w vs T ls hv) (by rw [ints_length]; unfold maxLen; simp; omega)
  rw [show (ints ((List.range ns.length).map (Hm.code ns))).length = ns.length from by rw [ints_length]; simp] at hh
  refine hh.mono fun e w' ⟨h1, h2⟩ => ⟨by rw [h1, he]; simp, belLit h2⟩
theorem fx_s1 (w : World) (g : Nat) (T : TypeId) (h : w.rowIs g 3 fxL.length (cdf fxL)) : Calls Try.prog 11 #[.slice (some ⟨g, 0, none⟩) 8 8, .slice (some ⟨w.heap.size, 0, none⟩) 8 8] (w.alloc (.cells #[.int .i64 2, .int .i64 3, .int .i64 4, .int .i64 5, .int .i64 6, .int .i64 0, .int .i64 14, .int .i64 15] T)) fun e w' => e = .returned (.bool true) ∧ Below w.heap.size w w' :=
  lit_same w g 8 fxL _ T [2, 3, 4, 5, 6, 0, 14, 15] h rfl (by decide) (by rw [show fxL.length = 8 from rfl, fx_codes]; rfl)
theorem fx_s2 (w : World) (g : Nat) (T : TypeId) (h : w.rowIs g 3 [0, 1].length (cdf [0, 1])) : Calls Try.prog 11 #[.slice (some ⟨g, 0, none⟩) 2 2, .slice (some ⟨w.heap.size, 0, none⟩) 2 2] (w.alloc (.cells #[.int .i64 0, .int .i64 0] T)) fun e w' => e = .returned (.bool true) ∧ Below w.heap.size w w' :=
  lit_same w g 2 [0, 1] _ T [0, 0] h rfl (by decide) (by decide +kernel)

set_option maxRecDepth 100000 in
set_option maxHeartbeats 1000000 in
theorem fixed08 (w : World) : Calls Try.prog 12 #[] w fun e w' => e = .returned (.bool true) ∧ Below w.heap.size w w' := by
  go_enter Try.func12, Try.ntmps12
  go_wp2_with fail
  refine (fx_c1 _ _).mono ?_
  rintro e w1 ⟨g1, hg1, rfl, hr1, hb1⟩
  go_wp2_with fail
  refine (fx_c2 _ _).mono ?_
  rintro e w2 ⟨rfl, hb2⟩
  go_wp2_with fail
  refine (fx_c3 _ _).mono ?_
  rintro e w3 ⟨rfl, hb3⟩
  go_wp2_with fail
  refine (fx_c4 _ _).mono ?_
  rintro e w4 ⟨g4, hg4, rfl, hr4, hb4⟩
  go_wp2_with fail
  refine (fx_n1 _ _).mono ?_
  rintro e w5 ⟨T5, hT5, rfl, ht5, hb5⟩
  go_wp2_with fail
  refine (fx_n2 _ _).mono ?_
  rintro e w6 ⟨rfl, hb6⟩
  have ht6 := ht5.below hb6
  go_wp2_with fail
  refine (fx_r1 _ _ ht6).mono ?_
  rintro e w7 ⟨rfl, hb7⟩
  have ht7 := ht6.below hb7
  go_wp2_with fail
  refine (fx_r2 _ _ ht7).mono ?_
  rintro e w8 ⟨rfl, hb8⟩
  have hq := belThen (belThen (belThen (belThen (belThen hb3 hb4) hb5) hb6) hb7) hb8
  have hr8 := rowBelow (rowBelow hr1 hb2) hq
  have hr48 := rowBelow hr4 (belThen (belThen (belThen hb5 hb6) hb7) hb8)
  have hw8 := belThen (belThen hb1 hb2) hq
  clear ht5 ht6 ht7 hq hr1 hr4 hb1 hb2 hb3 hb4 hb5 hb6 hb7 hb8
  go_wp2_with fail
  refine (fx_s1 _ _ _ hr8).mono ?_
  rintro e w9 ⟨rfl, hb9⟩
  have hr49 := rowBelow hr48 hb9
  go_wp2_with fail
  refine (fx_s2 _ _ _ hr49).mono ?_
  rintro e w10 ⟨rfl, hb10⟩
  go_wp2_with fail
  go_ret
  exact ⟨rfl, belThen (belThen hw8 hb9) hb10⟩
end Go.Proofs.Ytlhoahnjedpgaaa
