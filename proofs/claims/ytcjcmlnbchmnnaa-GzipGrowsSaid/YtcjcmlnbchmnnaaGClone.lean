/- (*gzip.Reader).Clone: its contract. · Two gzip Readers side by side, each in memory of its own: what the one's Write leaves of the other. -/
import Derived.Test.YtcjcmlnbchmnnaaGFixed
import Derived.Test.YtcjcmlnbchmnnaaIClone
/-! ### GClone -/
namespace Go.Proofs.Ytcjcmlnbchmnnaa
open Go.RowKit

/-- the copy of a gzip Reader: the same bytes written, memory of its own -/
def GClonePost (most : Nat) (full out : List UInt8) (fin : Option Nat) (w : World) (o : Ending) (w' : World) : Prop :=
  ∃ G2, o = .returned (.pointer (some ⟨G2, 0, none⟩)) ∧ GzIn w' G2 w.heap.size most full out fin ∧ Below w.heap.size w w'
/-- a gzip Reader apart: its own cells, its inflate Reader's history; any other cells and Reader of the same kind make one again -/
theorem GzAt.parts {w : World} {G R : Nat} {bk : Option Nat} {most : Nat} {full out : List UInt8} {fin : Option Nat} (h : GzAt w G R bk most full out fin) :
    ∃ g F c, GdAt w G g ∧ g.r = .pointer (some ⟨R, 0, none⟩) ∧ HistB w R bk most F c ∧ ∀ w' G' R' bk', GdAt w' G' { g with r := .pointer (some ⟨R', 0, none⟩) } → HistB w' R' bk' most F c → GzAt w' G' R' bk' most full out fin := by
  obtain ⟨g, hG, he, hr, hc⟩ := h
  rcases hc with ⟨k, fl, p, h1, h2, h3, h4, h5, h6, h7, h8, h9, h10, h11, h12⟩ | ⟨p, c, h1, h2, h3, h4, h5, h6⟩ | ⟨p, j, c, F, u, h1, h2, h3⟩
  · exact ⟨g, [], Im.start, hG, hr, h11, fun w' G' R' bk' q1 q2 => ⟨_, q1, he, rfl, .inl ⟨k, fl, p, h1, h2, h3, h4, h5, h6, h7, h8, h9, h10, q2, h12⟩⟩⟩
  · exact ⟨g, _, c, hG, hr, h5, fun w' G' R' bk' q1 q2 => ⟨_, q1, he, rfl, .inr (.inl ⟨p, c, h1, h2, h3, h4, q2, h6⟩)⟩⟩
  · exact ⟨g, F, c, hG, hr, h2, fun w' G' R' bk' q1 q2 => ⟨_, q1, he, rfl, .inr (.inr ⟨p, j, c, F, u, h1, q2, h3⟩)⟩⟩
set_option maxRecDepth 100000 in
set_option maxHeartbeats 2000000 in
theorem gclone_go (G R : Nat) (bk : Option Nat) (most : Nat) (full out : List UInt8) (fin : Option Nat) (w : World) (h : GzAt w G R bk most full out fin) :
    Calls Try.prog 20 #[.pointer (some ⟨G, 0, none⟩)] w (GClonePost most full out fin w) := by
  obtain ⟨g, F, c, hG, hr, hH, hmk⟩ := h.parts
  have HS := Lib.hid (show g.cells.size = 7 from rfl)
  have HZ := Lib.hid (show ((Try.prog.info? 61).map (·.size)) = some 7 from rfl)
  have HO := Lib.hid (show (g.cells.all fun x => x.oneCell') = true by unfold Gd.cells; rw [hr]; simp [Value.oneCell'])
  go_enter Try.func20, Try.ntmps20
  go_upto_region 2 with (first | ((with_reducible show wpList _ _ _ (⟨some 6, _, _, _, _, _⟩ :: _) _ _); refine wpList_load_row rfl 61 _ rfl G rfl 61 g.cells (0, 0) _ hG Try.underlying61 rfl HZ.out ?_) | ((with_reducible show wpList _ _ _ (⟨none, .store 61 _ _, _, _, _, _⟩ :: _) _ _); refine wpList_store_row rfl 61 _ _ rfl w.heap.size g.cells rfl rfl 61 _ (heap_alloc_new _ _) HZ.out (by rw [HS.out]; rfl) HO.out ?_))
  have hB : Below w.heap.size w ((w.alloc (.cells #[.int .i64 0, .string ⟨#[]⟩, .int .i64 0, .int .u8 0, .pointer none, .int .u32 0, .int .i64 0] 61)).setRow w.heap.size g.cells) := belSetRow ((Below.refl w.heap.size w).alloc (Nat.le_refl _) _) (g := w.heap.size) (Nat.le_refl _) g.cells
  have gG2 : GdAt ((w.alloc (.cells #[.int .i64 0, .string ⟨#[]⟩, .int .i64 0, .int .u8 0, .pointer none, .int .u32 0, .int .i64 0] 61)).setRow w.heap.size g.cells) w.heap.size g := setRow_heap _ w.heap.size _ _ 61 (0, 0) (heap_alloc_new _ _)
  generalize ((w.alloc (.cells #[.int .i64 0, .string ⟨#[]⟩, .int .i64 0, .int .u8 0, .pointer none, .int .u32 0, .int .i64 0] 61)).setRow w.heap.size g.cells) = W at hB gG2 ⊢
  have gGW : GdAt W G g := hG.below hB
  have c4 := gGW.r
  rw [hr] at c4
  have f4 := gG2.frozen 4
  have HN := Lib.hid (clone_go R bk most F c W (hH.below hB))
  have hfin : ∀ R2 bk2 w2, HistB w2 R2 bk2 most F c → Below W.heap.size W w2 → W.heap.size ≤ R2 → (∀ k, bk2 = some k → W.heap.size ≤ k) → Hid (GClonePost most full out fin w (.returned (.pointer (some ⟨w.heap.size, 0, none⟩))) (w2.setCell ⟨w.heap.size, 4, none⟩ (.pointer (some ⟨R2, 0, none⟩)))) ∧ GdAt w2 w.heap.size g := by
    intro R2 bk2 w2 q1 q2 q3 q4
    have gG3 := gG2.below q2
    have hb : Below w.heap.size w w2 := belThen hB q2
    have hs := hB.size
    refine ⟨Lib.hid ⟨w.heap.size, rfl, ⟨R2, bk2, hmk _ _ _ _ (gG3.set 4 _ rfl) (q1.gz gG3 ((Fr.refl (· = w.heap.size) w2).setCell (Or.inl rfl) _)), Nat.le_refl _, Nat.le_trans hs q3, fun k hk => Nat.le_trans hs (q4 k hk)⟩, hb.setCell (Nat.le_refl _) _⟩, gG3⟩
  clear hB hG gGW h hH hmk
  go_wp2_with (go_at_call 35; refine HN.out.mono ?_; rintro e w2 ⟨R2, bk2, rfl, q1, q2, q3, q4⟩; obtain ⟨hf, gG3⟩ := hfin R2 bk2 w2 q1 q2 q3 q4; clear hfin q1 q2 q3 q4; have f4' := gG3.frozen 4; have k4 := gG3.r)
  exact bodyPost_ret (results_tmp (t := 2) rfl _ _ _) rfl hf.out
end Go.Proofs.Ytcjcmlnbchmnnaa
/-! ### GGrow -/
namespace Go.Proofs.Ytcjcmlnbchmnnaa
open Go.RowKit

/-- two gzip Readers in memory of their own, all of it from block L on -/
structure GApart (L G R : Nat) (bk : Option Nat) (G2 R2 : Nat) (bk2 : Option Nat) : Prop where
  own : ∀ k, Own2 G R bk k → L ≤ k
  own2 : ∀ k, Own2 G2 R2 bk2 k → L ≤ k
  far : ∀ k, Own2 G2 R2 bk2 k → ¬ Own2 G R bk k
theorem GApart.symm {L G R G2 R2 : Nat} {bk bk2 : Option Nat} (h : GApart L G R bk G2 R2 bk2) : GApart L G2 R2 bk2 G R bk := ⟨h.own2, h.own, fun k hk q => h.far k q hk⟩
end Go.Proofs.Ytcjcmlnbchmnnaa
namespace Go.Proofs.Ytcjcmlnbchmnnaa
open Go.RowKit
variable {w w' : World} {G R most : Nat} {bk : Option Nat} {full out : List UInt8} {fin : Option Nat}
theorem Gd.same {g : Gd} {v : Value} (h : g.r = v) : ({ g with r := v } : Gd) = g := by rw [← h]
theorem GzAt.bound (h : GzAt w G R bk most full out fin) : ∀ k, Own2 G R bk k → k < w.heap.size := by
  obtain ⟨g, F, c, hG, _, hH, _⟩ := h.parts
  rintro k (rfl | q)
  · exact hG.lt
  · exact hH.bound k q
theorem GzAt.some (h : GzAt w G R bk most full out fin) : ∀ k, Own2 G R bk k → k < w.heap.size → SomeRow w k := by
  obtain ⟨g, F, c, hG, _, hH, _⟩ := h.parts
  rintro k (rfl | q) hk
  · exact ⟨_, _, hG, Or.inr (Or.inr rfl)⟩
  · exact hH.some k q hk
theorem GzAt.frS {S : Nat → Prop} (h : GzAt w G R bk most full out fin) (hf : Fr S w w') (hn : ∀ k, Own2 G R bk k → ¬ S k) (hS : ∀ k, S k → k < w.heap.size → SomeRow w k) : GzAt w' G R bk most full out fin := by
  obtain ⟨g, F, c, hG, hr, hH, hmk⟩ := h.parts
  exact hmk w' G R bk (by rw [Gd.same hr]; exact hG.fr hf (hn G (Or.inl rfl))) (hH.frS hf (hn R (Or.inr (Or.inl rfl))) (fun k hk => hn k (Or.inr (Or.inr hk))) hS)
theorem GzAt.heap (h : GzAt w G R bk most full out fin) (e : w'.heap = w.heap) : GzAt w' G R bk most full out fin := by
  obtain ⟨g, F, c, hG, hr, hH, hmk⟩ := h.parts
  exact hmk w' G R bk (by rw [Gd.same hr]; unfold GdAt at hG ⊢; rw [e]; exact hG) (hH.heap e)
theorem GzAt.below (h : GzAt w G R bk most full out fin) (hb : Below w.heap.size w w') : GzAt w' G R bk most full out fin :=
  h.frS (S := fun _ => False) (Fr.of_below hb) (fun _ _ q => q) (fun _ q => q.elim)
theorem GzAt.in (h : GzAt w G R bk most full out fin) : GzIn w G 0 most full out fin := ⟨R, bk, h, Nat.zero_le _, Nat.zero_le _, fun _ _ => Nat.zero_le _⟩
end Go.Proofs.Ytcjcmlnbchmnnaa
namespace Go.Proofs.Ytcjcmlnbchmnnaa
open Go.RowKit
theorem ggrow_clone (L G R : Nat) (bk : Option Nat) (most : Nat) (full out : List UInt8) (fin : Option Nat) (w : World) (h : GzAt w G R bk most full out fin) (hL : ∀ k, Own2 G R bk k → L ≤ k) (hLw : L ≤ w.heap.size) :
    Calls Try.prog 20 #[.pointer (some ⟨G, 0, none⟩)] w fun o w1 => ∃ G2 R2 bk2, o = .returned (.pointer (some ⟨G2, 0, none⟩)) ∧ GzAt w1 G R bk most full out fin ∧ GzAt w1 G2 R2 bk2 most full out fin ∧ GApart L G R bk G2 R2 bk2 ∧ Below w.heap.size w w1 := by
  refine (gclone_go G R bk most full out fin w h).mono ?_
  rintro o w1 ⟨G2, rfl, ⟨R2, bk2, h2, g1, g2, g3⟩, hb⟩
  have hge : ∀ k, Own2 G2 R2 bk2 k → w.heap.size ≤ k := by
    rintro k (rfl | rfl | hk)
    · exact g1
    · exact g2
    · exact g3 k hk
  exact ⟨G2, R2, bk2, rfl, h.below hb, h2, ⟨hL, fun k hk => Nat.le_trans hLw (hge k hk), fun k hk q => by have := hge k hk; have := h.bound k q; omega⟩, hb⟩
theorem ggrow_ok (L G R : Nat) (bk : Option Nat) (G2 R2 : Nat) (bk2 : Option Nat) (most : Nat) (full F2 out o2 out' : List UInt8) (fin f2 fin' : Option Nat) (t : ByteArray) (w : World) (h : GzAt w G R bk most full out fin) (h2 : GzAt w G2 R2 bk2 most F2 o2 f2) (ha : GApart L G R bk G2 R2 bk2) (hLw : L ≤ w.heap.size)
    (hs : full.length + t.size ≤ 281474976710656) (hrun : Gz.GRun (full ++ t.data.toList) most (out', 0, fin')) :
    Calls Try.prog 21 #[.pointer (some ⟨G, 0, none⟩), .string t] w fun o w' => o = .returned (.tuple #[.string ⟨(out'.drop out.length).toArray⟩, .int .i64 0]) ∧ (∃ bk', GzAt w' G R bk' most (full ++ t.data.toList) out' fin' ∧ GApart L G R bk' G2 R2 bk2) ∧ GzAt w' G2 R2 bk2 most F2 o2 f2 ∧ Below L w w' := by
  refine (gz_write G R bk most full out fin t w h hs).mono ?_
  rintro o w' ⟨hf, out3, e3, fin3, hr2, hx⟩
  have := hr2.det hrun
  injection this with e1 this
  injection this with e4 e5
  subst e1 e4 e5
  rcases hx with ⟨he, _⟩ | ⟨_, rfl, bk', hg, hb⟩
  · exact absurd rfl he
  · refine ⟨rfl, ⟨bk', hg, ⟨?_, ha.own2, ?_⟩⟩, h2.frS hf ha.far h.some, hf.to_below hLw ha.own⟩
    · rintro k (rfl | rfl | hk)
      · exact ha.own k (Or.inl rfl)
      · exact ha.own k (Or.inr (Or.inl rfl))
      · rcases hb with rfl | hb
        · exact ha.own k (Or.inr (Or.inr hk))
        · exact Nat.le_trans hLw (hb k hk)
    · rintro k hk (rfl | rfl | q)
      · exact ha.far k hk (Or.inl rfl)
      · exact ha.far k hk (Or.inr (Or.inl rfl))
      · rcases hb with rfl | hb
        · exact ha.far k hk (Or.inr (Or.inr q))
        · have := hb k q
          have := h2.bound k hk
          omega
/-- a gzip Reader that has failed -/
def GBroken (w : World) (G : Nat) (e : Int) : Prop := ∃ g, GdAt w G g ∧ g.e = e
theorem GBroken.below {w w' : World} {G : Nat} {e : Int} (h : GBroken w G e) (hb : Below w.heap.size w w') : GBroken w' G e := by
  obtain ⟨g, hG, he⟩ := h; exact ⟨g, hG.below hb, he⟩
theorem ggrow_bad (L G R : Nat) (bk : Option Nat) (G2 R2 : Nat) (bk2 : Option Nat) (most : Nat) (full F2 out o2 out' : List UInt8) (fin f2 fin' : Option Nat) (e : Int) (t : ByteArray) (w : World) (h : GzAt w G R bk most full out fin) (h2 : GzAt w G2 R2 bk2 most F2 o2 f2) (ha : GApart L G R bk G2 R2 bk2) (hLw : L ≤ w.heap.size)
    (hs : full.length + t.size ≤ 281474976710656) (hrun : Gz.GRun (full ++ t.data.toList) most (out', e, fin')) (he : e ≠ 0) :
    Calls Try.prog 21 #[.pointer (some ⟨G, 0, none⟩), .string t] w fun o w' => o = .returned (.tuple #[.string ⟨#[]⟩, .int .i64 e]) ∧ GBroken w' G e ∧ GzAt w' G2 R2 bk2 most F2 o2 f2 ∧ Below L w w' := by
  refine (gz_write G R bk most full out fin t w h hs).mono ?_
  rintro o w' ⟨hf, out3, e3, fin3, hr2, hx⟩
  have := hr2.det hrun
  injection this with e1 this
  injection this with e4 e5
  subst e1 e4 e5
  rcases hx with ⟨_, rfl, hg⟩ | ⟨hz, _⟩
  · exact ⟨rfl, hg, h2.frS hf ha.far h.some, hf.to_below hLw ha.own⟩
  · exact absurd hz he
/-- the clone's Write -/
theorem ggrow_left (L G R : Nat) (bk : Option Nat) (G2 R2 : Nat) (bk2 : Option Nat) (most : Nat) (F2 o2 : List UInt8) (f2 : Option Nat) (t : ByteArray) (w : World) (h2 : GzAt w G2 R2 bk2 most F2 o2 f2) (ha : GApart L G R bk G2 R2 bk2) (hLw : L ≤ w.heap.size) (hs : F2.length + t.size ≤ 281474976710656) :
    Calls Try.prog 21 #[.pointer (some ⟨G2, 0, none⟩), .string t] w fun o w' => SomeAns o ∧ (∀ full out fin, GzAt w G R bk most full out fin → GzAt w' G R bk most full out fin) ∧ (∀ e, GBroken w G e → GBroken w' G e) ∧ Below L w w' := by
  refine (gz_write G2 R2 bk2 most F2 o2 f2 t w h2 hs).mono ?_
  rintro o w' ⟨hf, out3, e3, fin3, hr2, hx⟩
  refine ⟨?_, fun full out fin h => h.frS hf (fun k hk q => ha.far k q hk) h2.some, fun e ⟨g, hg, he⟩ => ⟨g, hg.fr hf (fun q => ha.far G q (Or.inl rfl)), he⟩, hf.to_below hLw ha.own2⟩
  rcases hx with ⟨_, rfl, _⟩ | ⟨_, rfl, _⟩
  · exact ⟨_, _, rfl⟩
  · exact ⟨_, _, rfl⟩
theorem gbroken_write (G : Nat) (e : Int) (t : ByteArray) (w : World) (h : GBroken w G e) (he : e ≠ 0) :
    Calls Try.prog 21 #[.pointer (some ⟨G, 0, none⟩), .string t] w fun o w' => o = .returned (.tuple #[.string ⟨#[]⟩, .int .i64 e]) ∧ GBroken w' G e ∧ Below w.heap.size w w' := by
  obtain ⟨g, hG, rfl⟩ := h
  refine (gwrite_bad G g t w hG he).mono ?_
  rintro o w' ⟨rfl, hb⟩
  exact ⟨rfl, ⟨g, hG.below hb, rfl⟩, hb⟩
theorem gbroken_done (G : Nat) (e : Int) (w : World) (h : GBroken w G e) (he : e ≠ 0) :
    Calls Try.prog 23 #[.pointer (some ⟨G, 0, none⟩)] w fun o w' => o = .returned (.bool false) ∧ w = w' := by
  obtain ⟨g, hG, rfl⟩ := h
  exact gdone_any G g w hG false (decide_eq_false fun q => he q.2)
theorem gbroken_rest (G : Nat) (e : Int) (w : World) (h : GBroken w G e) (he : e ≠ 0) :
    Calls Try.prog 24 #[.pointer (some ⟨G, 0, none⟩)] w fun o w' => o = .returned (.string ⟨#[]⟩) ∧ w = w' := by
  obtain ⟨g, hG, rfl⟩ := h
  exact grest_any G g w hG false (decide_eq_false fun q => he q.2)
end Go.Proofs.Ytcjcmlnbchmnnaa
