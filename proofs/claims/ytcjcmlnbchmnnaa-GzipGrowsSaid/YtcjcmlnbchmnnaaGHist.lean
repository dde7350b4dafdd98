/- Plain mathematics of layer 10: what bytes say as a gzip member, all of it (no program in sight). · (*gzip.Reader).goes: its contract from the stream on, and of a tail. · (*gzip.Reader).goes where its head does not end, and where its tail is read; Write: their contracts. · A gzip Reader and all bytes that it was written so far: New, Write, Done, Rest: their contracts. -/
import Derived.Test.YtcjcmlnbchmnnaaGd
import Derived.Test.YtcjcmlnbchmnnaaImE
import Derived.Test.YtcjcmlnbchmnnaaGTail
import Derived.Test.YtcjcmlnbchmnnaaGHead
/-! ### GzRun -/
namespace Go.Proofs.Ytcjcmlnbchmnnaa.Gz

/-! all of it -/
/-- what a reader tells of bytes behind a head, by a run of inflate's -/
def behind (s : List UInt8) (p : Nat) (c : Im.St) (f : Int) : List UInt8 × Int × Option Nat :=
  if f ≠ 0 then ([], f, none) else if c.state ≠ 3 then (c.out, 0, none)
  else if (tailP s (p + c.pos / 8) c.out).1 = 0 then (c.out, tailP s (p + c.pos / 8) c.out) else ([], tailP s (p + c.pos / 8) c.out)
/-- what bytes say: what is told, the error, how many bytes there are if it has ended -/
def GRun (s : List UInt8) (most : Nat) (r : List UInt8 × Int × Option Nat) : Prop :=
  (magP s = .more ∧ r = ([], 0, none)) ∨ (∃ e, magP s = .bad e ∧ r = ([], e, none)) ∨
  (∃ p c f, magP s = .ok p ∧ Im.Run (s.drop p) most Im.start c f ∧ r = behind s p c f)
theorem GRun.det {s : List UInt8} {most : Nat} {r r' : List UInt8 × Int × Option Nat} (h : GRun s most r) (k : GRun s most r') : r = r' := by
  rcases h with ⟨h1, rfl⟩ | ⟨e, h1, rfl⟩ | ⟨p, c, f, h1, h2, rfl⟩ <;> rcases k with ⟨k1, rfl⟩ | ⟨e', k1, rfl⟩ | ⟨p', c', f', k1, k2, rfl⟩ <;> rw [h1] at k1 <;> try cases k1
  · rfl
  · obtain ⟨rfl, rfl⟩ := h2.det k2; rfl
end Go.Proofs.Ytcjcmlnbchmnnaa.Gz
/-! ### GGoes -/
namespace Go.Proofs.Ytcjcmlnbchmnnaa
open Go.RowKit

theorem histB_write_ok (R : Nat) (bk : Option Nat) (most : Nat) (full : List UInt8) (c c' : Im.St) (t : ByteArray) (w : World) (h : HistB w R bk most full c) (hs : full.length + t.size ≤ 281474976710656) (hrun : Im.Run (full ++ t.data.toList) most Im.start c' 0) :
    Calls Try.prog 29 #[.pointer (some ⟨R, 0, none⟩), .string t] w fun o w' => o = .returned (.tuple #[.string ⟨(c'.out.drop c.out.length).toArray⟩, .int .i64 0]) ∧ Fr (fun k => k = R ∨ bk = some k) w w' ∧ ∃ bk', HistB w' R bk' most (full ++ t.data.toList) c' ∧ ∀ k, bk' = some k → w.heap.size ≤ k := by
  refine (histB_write R bk most full c t w h hs).mono ?_
  rintro o w' ⟨c2, e2, h1, h2, h3⟩
  obtain ⟨rfl, rfl⟩ := h1.det hrun
  rcases h3 with ⟨h4, _⟩ | ⟨_, h4, h5⟩
  · exact absurd rfl h4
  · exact ⟨h4, h2, h5⟩
theorem histB_write_bad (R : Nat) (bk : Option Nat) (most : Nat) (full : List UInt8) (c c' : Im.St) (e : Int) (t : ByteArray) (w : World) (h : HistB w R bk most full c) (hs : full.length + t.size ≤ 281474976710656) (hrun : Im.Run (full ++ t.data.toList) most Im.start c' e) (he : e ≠ 0) :
    Calls Try.prog 29 #[.pointer (some ⟨R, 0, none⟩), .string t] w fun o w' => o = .returned (.tuple #[.string ⟨#[]⟩, .int .i64 e]) ∧ Fr (fun k => k = R ∨ bk = some k) w w' ∧ Broken w' R e := by
  refine (histB_write R bk most full c t w h hs).mono ?_
  rintro o w' ⟨c2, e2, h1, h2, h3⟩
  obtain ⟨rfl, rfl⟩ := h1.det hrun
  rcases h3 with ⟨_, h4, h5⟩ | ⟨h4, _⟩
  · exact ⟨h4, h2, h5⟩
  · exact absurd h4 he
/-- what may change: the two Readers and bytes of their own -/
def Own2 (G R : Nat) (bk : Option Nat) (k : Nat) : Prop := k = G ∨ k = R ∨ bk = some k
/-- at the stream: bytes S to be written to a Reader that has come to c by F -/
structure AtStream (G R : Nat) (bk : Option Nat) (most : Nat) (g : Gd) (F : List UInt8) (c : Im.St) (S : ByteArray) (w wx : World) : Prop where
  gd : ∃ fl : Int, GdAt wx G { g with st := 5, s := S, p := 0, fl := fl }
  hist : HistB wx R bk most F c
  fr : Fr (· = G) w wx
  r : g.r = .pointer (some ⟨R, 0, none⟩)
  sum : g.sum = (Cm.crc 0 c.out : Nat)
  size : F.length + S.size ≤ 281474976710656
def StreamPost (G R : Nat) (bk : Option Nat) (most : Nat) (g : Gd) (F : List UInt8) (c0 : Im.St) (S : ByteArray) (w : World) (o : Ending) (w' : World) : Prop :=
  Fr (Own2 G R bk) w w' ∧ ∃ c f, Im.Run (F ++ S.data.toList) most Im.start c f ∧
  ((f ≠ 0 ∧ o = .returned (.tuple #[.string ⟨#[]⟩, .int .i64 f]) ∧ ∃ g', GdAt w' G g') ∨
   (f = 0 ∧ ∃ fl bk', HistB w' R bk' most (F ++ S.data.toList) c ∧ (∀ k, bk' = some k → w.heap.size ≤ k) ∧
     ((c.state ≠ 3 ∧ o = .returned (.tuple #[.string ⟨(c.out.drop c0.out.length).toArray⟩, .int .i64 0]) ∧ GdAt w' G { g with st := 5, s := ⟨#[]⟩, p := 0, fl := fl, sum := (Cm.crc 0 c.out : Nat) }) ∨
      (c.state = 3 ∧ ∃ (rs : ByteArray) (j : Nat), rs.data.toList = (F ++ S.data.toList).drop (c.pos / 8) ∧ j ≤ 2 ∧ 4 * j ≤ rs.size ∧ GdAt w' G { g with st := ((6 + j : Nat) : Int), s := rs.extract (4 * j) rs.size, p := 0, fl := fl, sum := (Cm.crc 0 c.out : Nat) } ∧ (∀ i, i < j → Gz.nAt 4 rs.data.toList (4 * i) = wantN c.out i) ∧
        ((o = .returned (.tuple #[.string ⟨(c.out.drop c0.out.length).toArray⟩, .int .i64 0]) ∧ (j = 2 ∨ rs.size < 4 * j + 4)) ∨
         (o = .returned (.tuple #[.string ⟨#[]⟩, .int .i64 101]) ∧ j < 2 ∧ 4 * j + 4 ≤ rs.size ∧ Gz.nAt 4 rs.data.toList (4 * j) ≠ wantN c.out j))))))
theorem GdAt.frS {w w' : World} {G R most : Nat} {g : Gd} {bk : Option Nat} {F : List UInt8} {c : Im.St} (hG : GdAt w G g) (hH : HistB w R bk most F c) (hf : Fr (fun k => k = R ∨ bk = some k) w w') : GdAt w' G g := hG.fr hf (hH.far hG)
theorem tail_e (G R : Nat) (g : Gd) (bk : Option Nat) (most : Nat) (F : List UInt8) (c : Im.St) (w : World) (hG : GdAt w G g) (hst : g.st = 6) (hp : g.p = 0) (hr : g.r = .pointer (some ⟨R, 0, none⟩)) (hsum : g.sum = (Cm.crc 0 c.out : Nat))
    (hs : g.s.size ≤ 281474976710656) (hH : HistB w R bk most F c) (j0 : Nat) (hj : j0 = 0) :
    Calls Try.prog 53 #[.pointer (some ⟨G, 0, none⟩)] w fun o w' => ∃ e, o = .returned (.int .i64 e) ∧ ∃ j, Tailed G g c.out w j0 j w' ∧ ((e = 0 ∧ (j = 2 ∨ g.s.size < 4 * (j - j0) + 4)) ∨ (e = 101 ∧ j < 2 ∧ 4 * (j - j0) + 4 ≤ g.s.size ∧ Gz.nAt 4 g.s.data.toList (4 * (j - j0)) ≠ wantN c.out j)) := by
  refine (tail_go G R g bk most F c j0 w hG (by rw [hj]; exact hst) (by omega) hp hr hsum hs hH).mono ?_
  rintro o w' ⟨j, h1, ⟨rfl, h2⟩ | ⟨rfl, h2⟩⟩
  · exact ⟨0, rfl, j, h1, .inl ⟨rfl, h2⟩⟩
  · exact ⟨101, rfl, j, h1, .inr ⟨rfl, h2⟩⟩
/-- how a Reader comes to the stream: it stands there, or its head ends -/
def Enters (G R : Nat) (bk : Option Nat) (most : Nat) (g : Gd) (F : List UInt8) (c0 : Im.St) (S : ByteArray) (w : World) : Prop :=
  (g.st = 5 ∧ AtStream G R bk most g F c0 S w w) ∨
  (∃ k0 fl0 p0 q : Nat, g.st = k0 ∧ g.fl = fl0 ∧ g.p = p0 ∧ p0 ≤ g.s.size ∧ fl0 < 256 ∧ k0 ≤ 4 ∧ Gz.stg k0 fl0 g.s.data.toList p0 = .ok q ∧ q ≤ g.s.size ∧ S = g.s.extract q g.s.size ∧ F = [] ∧ c0 = Im.start ∧ HistB w R bk most [] Im.start ∧ g.r = .pointer (some ⟨R, 0, none⟩) ∧ g.sum = 0 ∧ g.s.size ≤ 281474976710656)
set_option maxRecDepth 100000 in
set_option maxHeartbeats 8000000 in
theorem goes_stream (G R : Nat) (bk : Option Nat) (most : Nat) (g : Gd) (F : List UInt8) (c0 : Im.St) (S : ByteArray) (w : World) (hG0 : GdAt w G g) (hE : Enters G R bk most g F c0 S w) :
    Calls Try.prog 40 #[.pointer (some ⟨G, 0, none⟩)] w (StreamPost G R bk most g F c0 S w) := by
  have c0st := hG0.st
  obtain ⟨bt, hbt⟩ : ∃ b, decide (g.st < 5) = b := ⟨_, rfl⟩
  go_enter Try.func40, Try.ntmps40
  go_upto_if 13 with fail
  go_cut [] (fun wx => AtStream G R bk most g F c0 S w wx)
  case first =>
    rcases hE with ⟨h5, hA⟩ | ⟨k0, fl0, p0, q, h1, h2, h3, h4, h5, h6, h7, h8, rfl, rfl, rfl, hH, hr, hsum, hsz⟩
    · obtain rfl : bt = false := by rw [← hbt]; exact decide_eq_false (by omega)
      have hAA := Lib.hid hA
      clear hA
      go_wp2_with fail
      go_meet
      exact hAA.out
    · have HD := Lib.hid (head_go G g k0 fl0 p0 w hG0 h1 h2 h3 h4 h5 h6 hsz)
      obtain rfl : bt = true := by rw [← hbt]; exact decide_eq_true (by omega)
      have HQ : ∀ o w', HeadPost G g w k0 fl0 p0 o w' → o = .returned (.tuple #[.bool true, .int .i64 0]) ∧ Hid (AtStream G R bk most g [] Im.start (g.s.extract q g.s.size) w w') := by
        intro o w' hp
        unfold HeadPost at hp
        rw [h7] at hp
        obtain ⟨ho, hF, fl, hg⟩ := hp
        exact ⟨ho, Lib.hid ⟨⟨fl, hg⟩, hH.gz hG0 hF, hF, hr, by rw [hsum]; show (0 : Int) = ((Cm.crc 0 [] : Nat) : Int); rw [Cm.crc_nil 0 (by omega)]; rfl, by rw [ext_size' _ _ _ (Nat.le_refl _), List.length_nil]; omega⟩⟩
      clear h1 h2 h3 h4 h5 h6 h7 h8 hH hsum
      go_wp2_with (go_at_call 51; refine HD.out.mono ?_; intro o w1 hp; obtain ⟨rfl, hA1⟩ := HQ _ _ hp; clear hp)
      go_meet
      exact hA1.out
  case rest =>
    clear hE c0st hG0
    obtain ⟨wa, hwa⟩ : ∃ x : World, x = wc := ⟨wc, rfl⟩
    subst hwa
    obtain ⟨⟨fl, hG⟩, hH, hF, hr, hsum, hsz⟩ := hcut
    obtain ⟨c, f, hrun⟩ := Im.run_exists (F ++ S.data.toList) most Im.start (Nat.zero_le _) (Nat.zero_le _)
    have kst := hG.st
    have ks := hG.s
    have kr := hG.r
    rw [hr] at kr
    have hHd := Lib.hid (hH.below (w' := wa.drew) (Below.refl _ _).drew)
    have hFO : Fr (Own2 G R bk) w wa.drew := (hF.mono fun k _ e => .inl e).drew
    by_cases hf0 : f = 0
    · subst hf0
      have HW := fun w h => Lib.hid (histB_write_ok R bk most F c0 c S w h hsz hrun)
      obtain ⟨og, hog⟩ := hH.run.more hrun
      have hol := (hrun.went (Nat.zero_le _) (Nat.zero_le _)).2.2.2.1 (Nat.zero_le _)
      have hml := hH.most_le
      have hogl : og.length ≤ 140737488355328 := by rw [hog, List.length_append] at hol; omega
      have hosz : (ByteArray.mk og.toArray).size = og.length := by simp [ByteArray.size]
      have HC := fun w => Lib.hid (crc_any (Cm.crc 0 c0.out) ⟨og.toArray⟩ w (Cm.crc_lt _ _) (by rw [hosz]; unfold maxLen; omega))
      have ecr : Cm.crc (Cm.crc 0 c0.out) (ByteArray.mk og.toArray).data.toList = Cm.crc 0 c.out := by rw [hog, ← Cm.crc_append]
      simp only [ecr] at HC
      have edr : c.out.drop c0.out.length = og := by rw [hog, List.drop_left]
      simp only [edr] at HW
      have hrr := Lib.hid hrun
      have hss := Lib.hid hsum
      replace edr := Lib.hid edr
      clear hog hol hml hogl hosz ecr hsum hF
      go_upto_region 8 with fail
      go_cut [6, 7] (fun v1 v2 wx => v1 = .string ⟨og.toArray⟩ ∧ v2 = .int .i64 0 ∧ Fr (Own2 G R bk) w wx ∧ GdAt wx G { g with st := 5, s := S, p := 0, fl := fl } ∧ ∃ bk', HistB wx R bk' most (F ++ S.data.toList) c ∧ ∀ k, bk' = some k → w.heap.size ≤ k)
      case first =>
        have hGd : GdAt wa.drew G { g with st := 5, s := S, p := 0, fl := fl } := hG.drew
        have HQ : ∀ w3, Fr (fun k => k = R ∨ bk = some k) wa.drew w3 → (∃ bk', HistB w3 R bk' most (F ++ S.data.toList) c ∧ ∀ k, bk' = some k → wa.drew.heap.size ≤ k) → Hid (Fr (Own2 G R bk) w w3 ∧ GdAt w3 G { g with st := 5, s := S, p := 0, fl := fl } ∧ ∃ bk', HistB w3 R bk' most (F ++ S.data.toList) c ∧ ∀ k, bk' = some k → w.heap.size ≤ k) := by
          rintro w3 h1 ⟨bk', h2, h3⟩
          exact Lib.hid ⟨hFO.trans (h1.mono fun k _ e => .inr e), hGd.frS hHd.out h1, bk', h2, fun k hk => Nat.le_trans hFO.size (h3 k hk)⟩
        clear hFO hGd hG
        go_region_with (go_at_call 29; refine (HW _ hHd.out).out.mono ?_; rintro o w3 ⟨rfl, hF3, hb3⟩)
        all_goals
          have HQ3 := HQ _ hF3 hb3
          clear hF3 hb3
          go_wp2_with fail
          go_meet
          exact ⟨rfl, rfl, HQ3.out⟩
      case rest =>
        clear kst ks kr hHd hFO HW hG
        obtain ⟨rfl, rfl, hF3, hG3, bk', hH3, hbk⟩ := hcut
        obtain ⟨w3, hw3⟩ : ∃ x : World, x = wc := ⟨wc, rfl⟩
        subst hw3
        have ks3 := hG3.s
        have fs3 := hG3.frozen 1
        have ksm3 := hG3.sum
        rw [show ({ g with st := 5, s := S, p := 0, fl := fl } : Gd).sum = (Cm.crc 0 c0.out : Nat) from hss.out] at ksm3
        have fsm3 := hG3.frozen 5
        have kr3 := hG3.r
        rw [show ({ g with st := 5, s := S, p := 0, fl := fl } : Gd).r = .pointer (some ⟨R, 0, none⟩) from hr] at kr3
        have hG4 : GdAt ((w3.setCell ⟨G, 1, none⟩ (.string ⟨#[]⟩)).setCell ⟨G, 5, none⟩ (.int .u32 (Cm.crc 0 c.out : Nat))) G { g with st := 5, s := ⟨#[]⟩, p := 0, fl := fl, sum := (Cm.crc 0 c.out : Nat) } :=
          GdAt.set (g := { g with st := 5, s := ⟨#[]⟩, p := 0, fl := fl }) (hG3.set 1 _ rfl) 5 _ rfl
        have hf34 : Fr (· = G) w3 ((w3.setCell ⟨G, 1, none⟩ (.string ⟨#[]⟩)).setCell ⟨G, 5, none⟩ (.int .u32 (Cm.crc 0 c.out : Nat))) := ((Fr.refl (· = G) w3).setCell (p := ⟨G, 1, none⟩) (Or.inl rfl) _).setCell (p := ⟨G, 5, none⟩) (Or.inl rfl) _
        have hH4 := hH3.gz hG3 hf34
        have hF4 : Fr (Own2 G R bk) w _ := hF3.trans (hf34.mono fun k _ e => .inl e)
        generalize hcr : Cm.crc 0 c.out = cr at *
        replace hG4 := Lib.hid hG4
        replace hH4 := Lib.hid hH4
        replace hF4 := Lib.hid hF4
        clear hf34 hG3 hH3 hF3
        go_upto_region 13 with (go_at_call 52; refine (HC _).out.mono ?_; rintro o w' ⟨rfl, rfl⟩)
        generalize hw4 : (w3.setCell ⟨G, 1, none⟩ (.string ⟨#[]⟩)).setCell ⟨G, 5, none⟩ (.int .u32 (cr : Nat)) = w4 at *
        clear hw4 ks3 fs3 ksm3 fsm3 kr3 HC
        have kr4 := hG4.out.r
        rw [show ({ g with st := 5, s := ⟨#[]⟩, p := 0, fl := fl, sum := (cr : Nat) } : Gd).r = .pointer (some ⟨R, 0, none⟩) from hr] at kr4
        have HDo := Lib.hid (hist_done R 0 most (F ++ S.data.toList) c w4 hH4.out.hist)
        by_cases h3 : c.state = 3
        · have HRe := Lib.hid (hist_rest R 0 most (F ++ S.data.toList) c w4 hH4.out.hist)
          rw [decide_eq_true h3] at HDo
          rw [if_pos h3] at HRe
          obtain ⟨rs, hrs⟩ : ∃ rs : ByteArray, rs = ⟨((F ++ S.data.toList).drop (c.pos / 8)).toArray⟩ := ⟨_, rfl⟩
          rw [← hrs] at HRe
          have hrl : rs.data.toList = (F ++ S.data.toList).drop (c.pos / 8) := by rw [hrs]
          have hrsz : rs.size ≤ 281474976710656 := by rw [← blen, hrl, List.length_drop, List.length_append, blen]; omega
          have kst4 := hG4.out.st
          have ks4 := hG4.out.s
          have fst4 := hG4.out.frozen 0
          have fs4 := hG4.out.frozen 1
          have hG5 : GdAt ((w4.setCell ⟨G, 1, none⟩ (.string rs)).setCell ⟨G, 0, none⟩ (.int .i64 6)) G { g with st := 6, s := rs, p := 0, fl := fl, sum := (cr : Nat) } :=
            GdAt.set (g := { g with st := 5, s := rs, p := 0, fl := fl, sum := (cr : Nat) }) (hG4.out.set 1 _ rfl) 0 _ rfl
          have hf45 : Fr (· = G) w4 ((w4.setCell ⟨G, 1, none⟩ (.string rs)).setCell ⟨G, 0, none⟩ (.int .i64 6)) := ((Fr.refl (· = G) w4).setCell (p := ⟨G, 1, none⟩) (Or.inl rfl) _).setCell (p := ⟨G, 0, none⟩) (Or.inl rfl) _
          have hH5 := hH4.out.gz hG4.out hf45
          have hF5 : Fr (Own2 G R bk) w _ := hF4.out.trans (hf45.mono fun k _ e => .inl e)
          have hfb : ∀ k, bk' = some k → w.heap.size ≤ k := hbk
          replace hG5 := Lib.hid hG5
          replace hH5 := Lib.hid hH5
          replace hF5 := Lib.hid hF5
          have hh3 := Lib.hid h3
          clear hf45 h3 hrs
          go_upto_region 15 with (first | (go_at_call 30; refine HDo.out.mono ?_; rintro o w' ⟨rfl, rfl⟩) | (go_at_call 31; refine HRe.out.mono ?_; rintro o w' ⟨rfl, rfl⟩))
          generalize hw5 : (w4.setCell ⟨G, 1, none⟩ (.string rs)).setCell ⟨G, 0, none⟩ (.int .i64 6) = w5 at *
          clear hw5 kst4 ks4 fst4 fs4 kr4 HDo HRe
          have HT := Lib.hid (tail_e G R _ bk' most (F ++ S.data.toList) c w5 hG5.out rfl rfl hr (by rw [hcr]) hrsz hH5.out 0 rfl)
          have HQ : ∀ e w6 j, Tailed G { g with st := 6, s := rs, p := 0, fl := fl, sum := (cr : Nat) } c.out w5 0 j w6 → ((e = 0 ∧ (j = 2 ∨ rs.size < 4 * (j - 0) + 4)) ∨ (e = 101 ∧ j < 2 ∧ 4 * (j - 0) + 4 ≤ rs.size ∧ Gz.nAt 4 rs.data.toList (4 * (j - 0)) ≠ wantN c.out j)) → Hid ((e = 0 → StreamPost G R bk most g F c0 S w (.returned (.tuple #[.string ⟨og.toArray⟩, .int .i64 0])) w6) ∧ (e ≠ 0 → StreamPost G R bk most g F c0 S w (.returned (.tuple #[.string ⟨#[]⟩, .int .i64 e])) w6)) := by
            intro e w6 j hT hx
            obtain ⟨t1, t2, t3, t4, t5, t6⟩ := hT
            have hcr2 : (cr : Int) = ((Cm.crc 0 c.out : Nat) : Int) := by rw [hcr]
            have hH6 := hH5.out.gz hG5.out t2
            have hF6 : Fr (Own2 G R bk) w w6 := hF5.out.trans (t2.mono fun k _ e => .inl e)
            rw [Nat.sub_zero] at t1 t5 hx
            have t6' : ∀ i, i < j → Gz.nAt 4 rs.data.toList (4 * i) = wantN c.out i := fun i hi => by have := t6 i (Nat.zero_le _) hi; rw [Nat.sub_zero] at this; exact this
            have t1' : GdAt w6 G { g with st := ((6 + j : Nat) : Int), s := rs.extract (4 * j) rs.size, p := 0, fl := fl, sum := (Cm.crc 0 c.out : Nat) } := by rw [hcr]; exact t1
            have he := edr.out
            refine Lib.hid ⟨fun e0 => ?_, fun e0 => ?_⟩
            · rcases hx with ⟨_, hx⟩ | ⟨hx, _⟩
              · exact ⟨hF6, c, 0, hrr.out, .inr ⟨rfl, fl, bk', hH6, hfb, .inr ⟨hh3.out, rs, j, hrl, t4, t5, t1', t6', .inl ⟨by rw [he], hx⟩⟩⟩⟩
              · omega
            · rcases hx with ⟨hx, _⟩ | ⟨hx, h2⟩
              · exact absurd hx e0
              · exact ⟨hF6, c, 0, hrr.out, .inr ⟨rfl, fl, bk', hH6, hfb, .inr ⟨hh3.out, rs, j, hrl, t4, t5, t1', t6', .inr ⟨by rw [hx], h2⟩⟩⟩⟩
          clear hG4 hH4 hF4 hG5 hH5 hF5 hrl hbk hfb
          go_wp2_with (go_at_call 53; refine HT.out.mono ?_; rintro o w6 ⟨e, rfl, j, hT6, hx6⟩; have HQ6 := HQ e w6 j hT6 hx6; clear hT6 hx6)
          · go_ret2
            exact HQ6.out.2 (by rename_i h; simpa using h)
          · go_ret2
            exact HQ6.out.1 (by rename_i h; simpa using h)
        · rw [decide_eq_false h3] at HDo
          have HT := Lib.hid (tail_none G _ w4 hG4.out (by show (5 : Int) ≠ 6; omega) (by show (5 : Int) ≠ 7; omega))
          have HQ : Hid (StreamPost G R bk most g F c0 S w (.returned (.tuple #[.string ⟨og.toArray⟩, .int .i64 0])) w4) :=
            Lib.hid ⟨hF4.out, c, 0, hrr.out, .inr ⟨rfl, fl, bk', hH4.out, hbk, .inl ⟨h3, by rw [edr.out], by rw [hcr]; exact hG4.out⟩⟩⟩
          clear h3 hbk hcr
          go_wp2_with (first | (go_at_call 30; refine HDo.out.mono ?_; rintro o w' ⟨rfl, rfl⟩) | (go_at_call 53; refine HT.out.mono ?_; rintro o w' ⟨rfl, rfl⟩))
          go_ret2
          exact HQ.out
    · have HW := fun w h => Lib.hid (histB_write_bad R bk most F c0 c f S w h hsz hrun hf0)
      have q1 : (f != 0) = true := by simpa using hf0
      have hrr := Lib.hid hrun
      have hff := Lib.hid hf0
      have hGd : GdAt wa.drew G { g with st := 5, s := S, p := 0, fl := fl } := hG.drew
      have HQ : ∀ w3, Fr (fun k => k = R ∨ bk = some k) wa.drew w3 → Hid (StreamPost G R bk most g F c0 S w (.returned (.tuple #[.string ⟨#[]⟩, .int .i64 f])) w3) := fun w3 h1 =>
        Lib.hid ⟨hFO.trans (h1.mono fun k _ e => .inr e), c, f, hrr.out, .inl ⟨hff.out, rfl, _, hGd.frS hHd.out h1⟩⟩
      clear hrun hf0 hFO hGd hG
      go_upto_region 8 with fail
      go_region_with (go_at_call 29; refine (HW _ hHd.out).out.mono ?_; rintro o w3 ⟨rfl, hF3, hb3⟩)
      all_goals
        have HQ3 := HQ _ hF3
        clear hF3 hb3
        go_wp2_with fail
        go_ret2
        exact HQ3.out
end Go.Proofs.Ytcjcmlnbchmnnaa
/-! ### GWrite -/
namespace Go.Proofs.Ytcjcmlnbchmnnaa
open Go.RowKit

set_option maxRecDepth 100000 in
set_option maxHeartbeats 4000000 in
theorem goes_fail (G : Nat) (g : Gd) (k0 fl0 p0 : Nat) (w : World) (hG : GdAt w G g) (hst : g.st = k0) (hfl : g.fl = fl0) (hp : g.p = p0) (hps : p0 ≤ g.s.size) (hf : fl0 < 256) (hk : k0 ≤ 4) (hs : g.s.size ≤ 281474976710656) (hno : ∀ q, Gz.stg k0 fl0 g.s.data.toList p0 ≠ .ok q) :
    Calls Try.prog 40 #[.pointer (some ⟨G, 0, none⟩)] w fun o w' => ∃ e, o = .returned (.tuple #[.string ⟨#[]⟩, .int .i64 e]) ∧ HeadPost G g w k0 fl0 p0 (.returned (.tuple #[.bool false, .int .i64 e])) w' := by
  have HD := Lib.hid (head_go G g k0 fl0 p0 w hG hst hfl hp hps hf hk hs)
  have HQ : ∀ o w', HeadPost G g w k0 fl0 p0 o w' → ∃ e, o = .returned (.tuple #[.bool false, .int .i64 e]) := by
    intro o w' h
    unfold HeadPost at h
    cases hm : Gz.stg k0 fl0 g.s.data.toList p0 with
    | more => rw [hm] at h; exact ⟨0, h.1⟩
    | bad e => rw [hm] at h; exact ⟨e, h.1⟩
    | ok q => exact absurd hm (hno q)
  have c0 := hG.st
  have q5 : decide (g.st < 5) = true := decide_eq_true (by omega)
  have HF : ∀ e w', HeadPost G g w k0 fl0 p0 (.returned (.tuple #[.bool false, .int .i64 e])) w' → Hid (∃ e', (.returned (.tuple #[.string ⟨#[]⟩, .int .i64 e]) : Ending) = .returned (.tuple #[.string ⟨#[]⟩, .int .i64 e']) ∧ HeadPost G g w k0 fl0 p0 (.returned (.tuple #[.bool false, .int .i64 e'])) w') := fun e w' h => Lib.hid ⟨e, rfl, h⟩
  clear hG hst hfl hp hps hf hk hs hno
  go_enter Try.func40, Try.ntmps40
  go_wp2_with (go_at_call 51; refine HD.out.mono ?_; intro o w1 hp; obtain ⟨e, rfl⟩ := HQ _ _ hp; have hpp := HF e w1 hp; clear hp)
  go_ret2
  exact hpp.out
set_option maxRecDepth 100000 in
set_option maxHeartbeats 4000000 in
theorem goes_tail (G R : Nat) (g : Gd) (bk : Option Nat) (most : Nat) (F : List UInt8) (c : Im.St) (j0 : Nat) (w : World) (hG : GdAt w G g) (hst : g.st = ((6 + j0 : Nat) : Int)) (hj0 : j0 ≤ 2) (hp : g.p = 0) (hr : g.r = .pointer (some ⟨R, 0, none⟩)) (hsum : g.sum = (Cm.crc 0 c.out : Nat))
    (hs : g.s.size ≤ 281474976710656) (hH : HistB w R bk most F c) :
    Calls Try.prog 40 #[.pointer (some ⟨G, 0, none⟩)] w fun o w' => ∃ e, o = .returned (.tuple #[.string ⟨#[]⟩, .int .i64 e]) ∧ TailPost G g c.out w j0 (.returned (.int .i64 e)) w' := by
  have HT := Lib.hid (tail_go G R g bk most F c j0 w hG hst hj0 hp hr hsum hs hH)
  have HQ : ∀ o w', TailPost G g c.out w j0 o w' → ∃ e, o = .returned (.int .i64 e) := by
    rintro o w' ⟨j, _, ⟨h, _⟩ | ⟨h, _⟩⟩
    · exact ⟨0, h⟩
    · exact ⟨101, h⟩
  have c0 := hG.st
  have q5 : decide (g.st < 5) = false := decide_eq_false (by omega)
  have q6 : (g.st == 5) = false := by simp; omega
  have HF : ∀ e w', TailPost G g c.out w j0 (.returned (.int .i64 e)) w' → Hid (∃ e', (.returned (.tuple #[.string ⟨#[]⟩, .int .i64 e]) : Ending) = .returned (.tuple #[.string ⟨#[]⟩, .int .i64 e']) ∧ TailPost G g c.out w j0 (.returned (.int .i64 e')) w') := fun e w' h => Lib.hid ⟨e, rfl, h⟩
  clear hG hst hp hr hsum hs hH hj0
  go_enter Try.func40, Try.ntmps40
  go_wp2_with (go_at_call 53; refine HT.out.mono ?_; intro o w1 hp; obtain ⟨e, rfl⟩ := HQ _ _ hp; have hpp := HF e w1 hp; clear hp)
  all_goals
    go_ret2
  · exact hpp.out
  · rename_i h
    have h0 : e = 0 := by simpa using h
    subst h0
    exact hpp.out
theorem gwrite_bad (G : Nat) (g : Gd) (t : ByteArray) (w : World) (hG : GdAt w G g) (he : g.e ≠ 0) :
    Calls Try.prog 21 #[.pointer (some ⟨G, 0, none⟩), .string t] w fun o w' => o = .returned (.tuple #[.string ⟨#[]⟩, .int .i64 g.e]) ∧ Below w.heap.size w w' := by
  have c6 := hG.e
  have q : (g.e != 0) = true := by simpa using he
  have hb := (Below.refl w.heap.size w).drew
  clear he hG
  go_enter Try.func21, Try.ntmps21
  go_wp2_with fail
  go_region
  all_goals
    go_wp2_with fail
    go_ret2
    exact ⟨rfl, hb⟩
theorem gwrite_walk (G : Nat) (g : Gd) (t : ByteArray) (w : World) (hG : GdAt w G g) (he : g.e = 0) (hz : g.s.size + t.size ≤ 281474976710656) (Q : ByteArray → Int → World → Prop)
    (HQ : Calls Try.prog 40 #[.pointer (some ⟨G, 0, none⟩)] (w.setCell ⟨G, 1, none⟩ (.string (g.s ++ t))) fun o w' => ∃ os e, o = .returned (.tuple #[.string os, .int .i64 e]) ∧ (∃ g', GdAt w' G g') ∧ Q os e w') :
    Calls Try.prog 21 #[.pointer (some ⟨G, 0, none⟩), .string t] w fun o w' => ∃ os e w2, o = .returned (.tuple #[.string os, .int .i64 e]) ∧ Q os e w2 ∧ w' = w2.setCell ⟨G, 6, none⟩ (.int .i64 e) := by
  have c6 := hG.e
  rw [he] at c6
  have c1 := hG.s
  have f1 := hG.frozen 1
  replace HQ := Lib.hid HQ
  clear hG he
  go_enter Try.func21, Try.ntmps21
  go_wp2_with (go_at_call 40; refine HQ.out.mono ?_; rintro o w2 ⟨os, e, rfl, ⟨g', hg'⟩, hq⟩; have k6 := hg'.e; have f6 := hg'.frozen 6; clear hg'; replace hq := Lib.hid hq)
  go_ret2
  exact ⟨_, _, _, rfl, hq.out, rfl⟩
end Go.Proofs.Ytcjcmlnbchmnnaa
/-! ### GHist -/
namespace Go.Proofs.Ytcjcmlnbchmnnaa
open Go.RowKit

/-- the gzip Reader in block G (its Reader in R, with bytes in bk) was written full, has told out, and has ended behind fin bytes -/
def GzAt (w : World) (G R : Nat) (bk : Option Nat) (most : Nat) (full out : List UInt8) (fin : Option Nat) : Prop :=
  ∃ g : Gd, GdAt w G g ∧ g.e = 0 ∧ g.r = .pointer (some ⟨R, 0, none⟩) ∧
   ((∃ k fl p : Nat, k ≤ 4 ∧ g.st = k ∧ g.fl = fl ∧ fl < 256 ∧ g.p = p ∧ p ≤ full.length ∧ g.s.data.toList = full ∧ g.sum = 0 ∧ (∀ u, Gz.magP (full ++ u) = Gz.stg k fl (full ++ u) p) ∧ Gz.magP full = .more ∧ HistB w R bk most [] Im.start ∧ out = [] ∧ fin = none) ∨
    (∃ (p : Nat) (c : Im.St), Gz.magP full = .ok p ∧ g.st = 5 ∧ g.s = ⟨#[]⟩ ∧ g.p = 0 ∧ HistB w R bk most (full.drop p) c ∧ c.state ≠ 3 ∧ g.sum = (Cm.crc 0 c.out : Nat) ∧ out = c.out ∧ fin = none) ∨
    (∃ (p j : Nat) (c : Im.St) (F u : List UInt8), Gz.magP full = .ok p ∧ HistB w R bk most F c ∧ full.drop p = F ++ u ∧ c.state = 3 ∧ g.p = 0 ∧ g.sum = (Cm.crc 0 c.out : Nat) ∧ out = c.out ∧ j ≤ 2 ∧ g.st = ((6 + j : Nat) : Int) ∧ p + c.pos / 8 + 4 * j ≤ full.length ∧ g.s.data.toList = full.drop (p + c.pos / 8 + 4 * j) ∧
      (∀ i, i < j → Gz.nAt 4 full (p + c.pos / 8 + 4 * i) = wantN c.out i) ∧ (j = 2 ∨ full.length < p + c.pos / 8 + 4 * j + 4) ∧ fin = if j = 2 then some (p + c.pos / 8 + 8) else none))
theorem tail_of {s : List UInt8} {Q j : Nat} {out : List UInt8} (hj : j ≤ 2) (hall : ∀ i, i < j → Gz.nAt 4 s (Q + 4 * i) = wantN out i) (hl : Q + 4 * j ≤ s.length) :
    ((j = 2 ∨ s.length < Q + 4 * j + 4) → Gz.tailP s Q out = (0, if j = 2 then some (Q + 8) else none)) ∧ (j < 2 → Q + 4 * j + 4 ≤ s.length → Gz.nAt 4 s (Q + 4 * j) ≠ wantN out j → Gz.tailP s Q out = (101, none)) := by
  unfold Gz.tailP
  rcases (by omega : j = 0 ∨ j = 1 ∨ j = 2) with rfl | rfl | rfl
  · refine ⟨fun h => ?_, fun _ h1 h2 => ?_⟩
    · rw [if_pos (by omega)]; rfl
    · have h2' : Gz.nAt 4 s Q ≠ Cm.crc 0 out := h2
      rw [if_neg (by omega), if_pos h2']
  · have h0 := hall 0 (by omega)
    refine ⟨fun h => ?_, fun _ h1 h2 => ?_⟩
    · rw [if_neg (by omega), if_neg (fun q => q h0), if_pos (by omega)]; rfl
    · have h2' : Gz.nAt 4 s (Q + 4) ≠ out.length % 4294967296 := h2
      rw [if_neg (by omega), if_neg (fun q => q h0), if_neg (by omega), if_pos h2']
  · have h0 := hall 0 (by omega)
    have h1 := hall 1 (by omega)
    refine ⟨fun h => ?_, fun h => by omega⟩
    rw [if_neg (by omega), if_neg (fun q => q h0), if_neg (by omega), if_neg (fun q => q h1)]
    rfl
theorem behind_bad {s : List UInt8} {p : Nat} {c : Im.St} {f : Int} (h : f ≠ 0) : Gz.behind s p c f = ([], f, none) := if_pos h
theorem behind_on {s : List UInt8} {p : Nat} {c : Im.St} (h : c.state ≠ 3) : Gz.behind s p c 0 = (c.out, 0, none) := by
  unfold Gz.behind; rw [if_neg (show ¬ (0 : Int) ≠ 0 from fun q => q rfl), if_pos h]
theorem behind_ok {s : List UInt8} {p : Nat} {c : Im.St} {fin : Option Nat} (h : c.state = 3) (ht : Gz.tailP s (p + c.pos / 8) c.out = (0, fin)) : Gz.behind s p c 0 = (c.out, 0, fin) := by
  unfold Gz.behind; rw [if_neg (show ¬ (0 : Int) ≠ 0 from fun q => q rfl), if_neg (show ¬ c.state ≠ 3 from fun q => q h), ht]; exact if_pos rfl
theorem behind_no {s : List UInt8} {p : Nat} {c : Im.St} (h : c.state = 3) (ht : Gz.tailP s (p + c.pos / 8) c.out = (101, none)) : Gz.behind s p c 0 = ([], 101, none) := by
  unfold Gz.behind; rw [if_neg (show ¬ (0 : Int) ≠ 0 from fun q => q rfl), if_neg (show ¬ c.state ≠ 3 from fun q => q h), ht]; exact if_neg (show ¬ (101 : Int) = 0 by omega)
theorem nAt_drop (n : Nat) (s : List UInt8) (q i : Nat) : Gz.nAt n (s.drop q) i = Gz.nAt n s (q + i) := by
  unfold Gz.nAt; rw [List.drop_drop]
/-- what Write comes to, ahead of the last store -/
def GzMid (G R : Nat) (bk : Option Nat) (most : Nat) (full out : List UInt8) (w : World) (os : ByteArray) (e : Int) (w2 : World) : Prop :=
  Fr (Own2 G R bk) w w2 ∧ ∃ out' fin', Gz.GRun full most (out', e, fin') ∧
    ((e ≠ 0 ∧ os = ⟨#[]⟩ ∧ ∃ g', GdAt w2 G g') ∨ (e = 0 ∧ os = ⟨(out'.drop out.length).toArray⟩ ∧ ∃ bk', GzAt w2 G R bk' most full out' fin' ∧ (bk' = bk ∨ ∀ k, bk' = some k → w.heap.size ≤ k)))
/-- out of a stream -/
theorem mid_stream {G R : Nat} {bk : Option Nat} {most p : Nat} {g : Gd} {F full : List UInt8} {c0 : Im.St} {S : ByteArray} {w w1 w2 : World} {o : Ending} (h : StreamPost G R bk most g F c0 S w1 o w2) (hw : Fr (Own2 G R bk) w w1) (hz : w.heap.size ≤ w1.heap.size)
    (hm : Gz.magP full = .ok p) (hF : F ++ S.data.toList = full.drop p) (hp : p ≤ full.length) (he : g.e = 0) (hr : g.r = .pointer (some ⟨R, 0, none⟩)) : ∃ os e, o = .returned (.tuple #[.string os, .int .i64 e]) ∧ (∃ g', GdAt w2 G g') ∧ GzMid G R bk most full c0.out w os e w2 := by
  obtain ⟨hf, c, f, hrun, hcs⟩ := h
  rw [hF] at hrun
  have hff := hw.trans hf
  rcases hcs with ⟨hf0, ho, g', hg⟩ | ⟨rfl, fl, bk', hH, hbk, hcs⟩
  · refine ⟨_, _, ho, ⟨g', hg⟩, hff, [], none, .inr (.inr ⟨p, c, f, hm, hrun, ?_⟩), .inl ⟨hf0, rfl, g', hg⟩⟩
    exact (behind_bad hf0).symm
  · rw [hF] at hH
    rcases hcs with ⟨h3, ho, hg⟩ | ⟨h3, rs, j, hrs, hj, hjs, hg, hall, hcs⟩
    · refine ⟨_, _, ho, ⟨_, hg⟩, hff, c.out, none, .inr (.inr ⟨p, c, 0, hm, hrun, ?_⟩), .inr ⟨rfl, rfl, bk', ⟨_, hg, he, hr, .inr (.inl ⟨p, c, hm, rfl, rfl, rfl, hH, h3, rfl, rfl, rfl⟩)⟩, .inr fun k hk => Nat.le_trans hz (hbk k hk)⟩⟩
      exact (behind_on h3).symm
    · have hev := hrun.went (Nat.zero_le _) (Nat.zero_le _)
      have hpos := hev.1
      rw [List.length_drop] at hpos
      rw [hF, List.drop_drop] at hrs
      have hrl : rs.size = full.length - (p + c.pos / 8) := by rw [← blen, hrs, List.length_drop]
      have hall' : ∀ i, i < j → Gz.nAt 4 full (p + c.pos / 8 + 4 * i) = wantN c.out i := fun i hi => by rw [← nAt_drop, ← hrs]; exact hall i hi
      have hl : p + c.pos / 8 + 4 * j ≤ full.length := by omega
      obtain ⟨t1, t2⟩ := tail_of hj hall' hl
      rcases hcs with ⟨ho, hx⟩ | ⟨ho, hj2, hx, hne⟩
      · have ht := t1 (by omega)
        refine ⟨_, _, ho, ⟨_, hg⟩, hff, c.out, (if j = 2 then some (p + c.pos / 8 + 8) else none), .inr (.inr ⟨p, c, 0, hm, hrun, ?_⟩), .inr ⟨rfl, rfl, bk', ⟨_, hg, he, hr, .inr (.inr ⟨p, j, c, _, [], hm, hH, (List.append_nil _).symm, h3, rfl, rfl, rfl, hj, rfl, hl, ?_, hall', by omega, rfl⟩)⟩, .inr fun k hk => Nat.le_trans hz (hbk k hk)⟩⟩
        · exact (behind_ok h3 ht).symm
        · show (rs.extract (4 * j) rs.size).data.toList = _
          rw [drop_list, hrs, List.drop_drop]
      · have ht := t2 hj2 (by omega) (by rw [← nAt_drop, ← hrs]; exact hne)
        refine ⟨_, _, ho, ⟨_, hg⟩, hff, [], none, .inr (.inr ⟨p, c, 0, hm, hrun, ?_⟩), .inl ⟨by omega, rfl, _, hg⟩⟩
        exact (behind_no h3 ht).symm
def GzPost (G R : Nat) (bk : Option Nat) (most : Nat) (full out : List UInt8) (w : World) (o : Ending) (w' : World) : Prop :=
  Fr (Own2 G R bk) w w' ∧ ∃ out' e fin', Gz.GRun full most (out', e, fin') ∧
    ((e ≠ 0 ∧ o = .returned (.tuple #[.string ⟨#[]⟩, .int .i64 e]) ∧ ∃ g', GdAt w' G g' ∧ g'.e = e) ∨
     (e = 0 ∧ o = .returned (.tuple #[.string ⟨(out'.drop out.length).toArray⟩, .int .i64 0]) ∧ ∃ bk', GzAt w' G R bk' most full out' fin' ∧ (bk' = bk ∨ ∀ k, bk' = some k → w.heap.size ≤ k)))
theorem GzAt.gz {w w' : World} {G R most : Nat} {bk : Option Nat} {full out : List UInt8} {fin : Option Nat} (h : GzAt w G R bk most full out fin) (hf : Fr (fun _ => False) w w') : GzAt w' G R bk most full out fin := by
  obtain ⟨g, hG, he, hr, hc⟩ := h
  have hk : ∀ {F c}, HistB w R bk most F c → HistB w' R bk most F c := fun h => h.frS hf (fun q => q) (fun _ _ q => q) (fun _ q => q.elim)
  refine ⟨g, hG.fr hf (fun q => q), he, hr, ?_⟩
  rcases hc with ⟨k, fl, p, h1, h2, h3, h4, h5, h6, h7, h8, h9, h10, h11, h12⟩ | ⟨p, c, h1, h2, h3, h4, h5, h6⟩ | ⟨p, j, c, F, u, h1, h2, h3⟩
  · exact .inl ⟨k, fl, p, h1, h2, h3, h4, h5, h6, h7, h8, h9, h10, hk h11, h12⟩
  · exact .inr (.inl ⟨p, c, h1, h2, h3, h4, hk h5, h6⟩)
  · exact .inr (.inr ⟨p, j, c, F, u, h1, hk h2, h3⟩)
theorem GzAt.setE {w : World} {G R most : Nat} {bk : Option Nat} {full out : List UInt8} {fin : Option Nat} (h : GzAt w G R bk most full out fin) : GzAt (w.setCell ⟨G, 6, none⟩ (.int .i64 0)) G R bk most full out fin := by
  obtain ⟨g, hG, he, hr, hc⟩ := h
  have hf : Fr (· = G) w (w.setCell ⟨G, 6, none⟩ (.int .i64 0)) := (Fr.refl (· = G) w).setCell (Or.inl rfl) _
  have hk : ∀ {F c}, HistB w R bk most F c → HistB (w.setCell ⟨G, 6, none⟩ (.int .i64 0)) R bk most F c := fun h => h.gz hG hf
  have hG' : GdAt (w.setCell ⟨G, 6, none⟩ (.int .i64 0)) G g := hG.set 6 _ (by unfold Gd.cells; rw [he]; rfl)
  refine ⟨g, hG', he, hr, ?_⟩
  rcases hc with ⟨k, fl, p, h1, h2, h3, h4, h5, h6, h7, h8, h9, h10, h11, h12⟩ | ⟨p, c, h1, h2, h3, h4, h5, h6⟩ | ⟨p, j, c, F, u, h1, h2, h3⟩
  · exact .inl ⟨k, fl, p, h1, h2, h3, h4, h5, h6, h7, h8, h9, h10, hk h11, h12⟩
  · exact .inr (.inl ⟨p, c, h1, h2, h3, h4, hk h5, h6⟩)
  · exact .inr (.inr ⟨p, j, c, F, u, h1, hk h2, h3⟩)
theorem post_of_mid {G R : Nat} {bk : Option Nat} {most : Nat} {full out : List UInt8} {w w2 : World} {os : ByteArray} {e : Int} (h : GzMid G R bk most full out w os e w2) : GzPost G R bk most full out w (.returned (.tuple #[.string os, .int .i64 e])) (w2.setCell ⟨G, 6, none⟩ (.int .i64 e)) := by
  obtain ⟨hf, out', fin', hr, hcs⟩ := h
  refine ⟨hf.setCell (p := ⟨G, 6, none⟩) (Or.inl (Or.inl rfl)) _, out', e, fin', hr, ?_⟩
  rcases hcs with ⟨he, rfl, g', hg⟩ | ⟨rfl, rfl, bk', hg, hb⟩
  · exact .inl ⟨he, rfl, { g' with e := e }, hg.set 6 _ rfl, rfl⟩
  · exact .inr ⟨rfl, rfl, bk', hg.setE, hb⟩
theorem gz_write (G R : Nat) (bk : Option Nat) (most : Nat) (full out : List UInt8) (fin : Option Nat) (t : ByteArray) (w : World) (h : GzAt w G R bk most full out fin) (hs : full.length + t.size ≤ 281474976710656) :
    Calls Try.prog 21 #[.pointer (some ⟨G, 0, none⟩), .string t] w (GzPost G R bk most (full ++ t.data.toList) out w) := by
  obtain ⟨g, hG, he, hr, hc⟩ := h
  have hf1 : Fr (· = G) w (w.setCell ⟨G, 1, none⟩ (.string (g.s ++ t))) := (Fr.refl (· = G) w).setCell (Or.inl rfl) _
  have hG1 : GdAt (w.setCell ⟨G, 1, none⟩ (.string (g.s ++ t))) G { g with s := g.s ++ t } := hG.set 1 _ rfl
  have hw1 : Fr (Own2 G R bk) w (w.setCell ⟨G, 1, none⟩ (.string (g.s ++ t))) := hf1.mono fun k _ e => .inl e
  have hz1 : w.heap.size ≤ (w.setCell ⟨G, 1, none⟩ (.string (g.s ++ t))).heap.size := hf1.size
  have hsz : g.s.size + t.size ≤ 281474976710656 := by
    rcases hc with ⟨k, fl, p, _, _, _, _, _, _, h7, _⟩ | ⟨p, c, _, _, h3, _⟩ | ⟨p, j, c, F, u, _, _, _, _, _, _, _, _, _, _, h12, _⟩
    · rw [← blen, h7]; exact hs
    · rw [h3]; show 0 + _ ≤ _; omega
    · rw [← blen, h12, List.length_drop]; omega
  have hk : ∀ {F c}, HistB w R bk most F c → HistB (w.setCell ⟨G, 1, none⟩ (.string (g.s ++ t))) R bk most F c := fun h => h.gz hG hf1
  suffices HQ : Calls Try.prog 40 #[.pointer (some ⟨G, 0, none⟩)] (w.setCell ⟨G, 1, none⟩ (.string (g.s ++ t))) fun o w' => ∃ os e, o = .returned (.tuple #[.string os, .int .i64 e]) ∧ (∃ g', GdAt w' G g') ∧ GzMid G R bk most (full ++ t.data.toList) out w os e w' by
    refine (gwrite_walk G g t w hG he hsz (GzMid G R bk most (full ++ t.data.toList) out w) HQ).mono ?_
    rintro o w' ⟨os, e, w2, rfl, hq, rfl⟩
    exact post_of_mid hq
  generalize w.setCell ⟨G, 1, none⟩ (.string (g.s ++ t)) = w1 at *
  have hsl : (g.s ++ t).size = g.s.size + t.size := str_size _ _
  have hll : (full ++ t.data.toList).length = full.length + t.size := by rw [List.length_append, blen]
  rcases hc with ⟨k, fl, p, h1, h2, h3, h4, h5, h6, h7, h8, h9, h10, h11, rfl, rfl⟩ | ⟨p, c, h1, h2, h3, h4, h5, h6, h7, rfl, rfl⟩ | ⟨p, j, c, F, u, h1, h2, h3, h4, h5, h6, rfl, h8, h9, h10, h11, h12, h13, rfl⟩
  · have hfl : ({ g with s := g.s ++ t } : Gd).s.data.toList = full ++ t.data.toList := by rw [← h7]; exact str_app _ _
    have hps : p ≤ ({ g with s := g.s ++ t } : Gd).s.size := by show p ≤ (g.s ++ t).size; rw [hsl, ← blen g.s, h7]; omega
    have hm := h9 t.data.toList
    cases hmm : Gz.magP (full ++ t.data.toList) with
    | ok q =>
      have hq := Gz.magP_le hmm
      have hst : Gz.stg k fl ({ g with s := g.s ++ t } : Gd).s.data.toList p = .ok q := by rw [hfl, ← hm, hmm]
      have hqs : q ≤ ({ g with s := g.s ++ t } : Gd).s.size := by rw [← blen, hfl]; exact hq.2
      refine (goes_stream G R bk most _ [] Im.start (({ g with s := g.s ++ t } : Gd).s.extract q ({ g with s := g.s ++ t } : Gd).s.size) w1 hG1 (.inr ⟨k, fl, p, q, h2, h3, h5, hps, h4, h1, hst, hqs, rfl, rfl, rfl, hk h11, hr, h8, by show (g.s ++ t).size ≤ _; omega⟩)).mono ?_
      intro o w2 hp
      exact mid_stream hp hw1 hz1 hmm (by rw [List.nil_append, drop_list, hfl]) hq.2 he hr
    | more =>
      have hst : Gz.stg k fl ({ g with s := g.s ++ t } : Gd).s.data.toList p = .more := by rw [hfl, ← hm, hmm]
      refine (goes_fail G _ k fl p w1 hG1 h2 h3 h5 hps h4 h1 (by show (g.s ++ t).size ≤ _; omega) (by rw [hst]; intro q hq; cases hq)).mono ?_
      rintro o w2 ⟨e, rfl, hp⟩
      unfold HeadPost at hp
      rw [hst] at hp
      obtain ⟨hoe, k', hk', fl', p', s1, s2, s3, s4, s5⟩ := hp
      have h0 : e = 0 := by injection hoe with hoe; injection hoe with hoe; injection hoe with hoe; injection hoe with _ hoe; injection hoe with hoe; injection hoe
      subst h0
      refine ⟨_, _, rfl, ⟨_, s1⟩, hw1.trans (s4.mono fun k _ e => .inl e), [], none, .inl ⟨hmm, rfl⟩, .inr ⟨rfl, rfl, bk, ⟨_, s1, he, hr, .inl ⟨k', fl', p', hk', rfl, rfl, s3, rfl, ?_, hfl, h8, ?_, hmm, (hk h11).gz hG1 s4, rfl, rfl⟩⟩, .inl rfl⟩⟩
      · rw [← hfl, blen]; exact s2
      · intro v
        rw [List.append_assoc, h9, ← List.append_assoc, ← hfl]
        exact s5 v
    | bad e' =>
      have hst : Gz.stg k fl ({ g with s := g.s ++ t } : Gd).s.data.toList p = .bad e' := by rw [hfl, ← hm, hmm]
      refine (goes_fail G _ k fl p w1 hG1 h2 h3 h5 hps h4 h1 (by show (g.s ++ t).size ≤ _; omega) (by rw [hst]; intro q hq; cases hq)).mono ?_
      rintro o w2 ⟨e, rfl, hp⟩
      unfold HeadPost at hp
      rw [hst] at hp
      obtain ⟨hoe, s4, g', hg', _⟩ := hp
      have h0 : e = e' := by injection hoe with hoe; injection hoe with hoe; injection hoe with hoe; injection hoe with _ hoe; injection hoe with hoe; injection hoe
      subst h0
      have hne : e ≠ 0 := by rcases Gz.magP_bad hmm with q | q <;> omega
      exact ⟨_, _, rfl, ⟨_, hg'⟩, hw1.trans (s4.mono fun k _ e => .inl e), [], none, .inr (.inl ⟨e, hmm, rfl⟩), .inl ⟨hne, rfl, _, hg'⟩⟩
  · have hq := Gz.magP_le h1
    have hmm : Gz.magP (full ++ t.data.toList) = .ok p := by
      rcases Gz.magP_app full t.data.toList with q | q
      · rw [h1] at q; cases q
      · rw [q, h1]
    have hst : g.s ++ t = t := by rw [h3]; exact bytes_ext (by rw [str_app]; rfl)
    rw [hst] at hG1
    refine (goes_stream G R bk most { g with s := t } (full.drop p) c t w1 hG1 (.inl ⟨h2, ⟨⟨g.fl, by rw [← h2, ← h4]; exact hG1⟩, hk h5, Fr.refl _ _, hr, h7, by rw [List.length_drop]; omega⟩⟩)).mono ?_
    intro o w2 hp
    exact mid_stream hp hw1 hz1 hmm (by rw [List.drop_append_of_le_length hq.2]) (by rw [hll]; omega) he hr
  · have hq := Gz.magP_le h1
    have hmm : Gz.magP (full ++ t.data.toList) = .ok p := by
      rcases Gz.magP_app full t.data.toList with q | q
      · rw [h1] at q; cases q
      · rw [q, h1]
    have hs1 : ({ g with s := g.s ++ t } : Gd).s.data.toList = (full ++ t.data.toList).drop (p + c.pos / 8 + 4 * j) := by
      rw [List.drop_append_of_le_length h10, ← h11]; exact str_app _ _
    have hsz1 : ({ g with s := g.s ++ t } : Gd).s.size = full.length + t.size - (p + c.pos / 8 + 4 * j) := by rw [← blen, hs1, List.length_drop, hll]
    have hdr : (full ++ t.data.toList).drop p = F ++ (u ++ t.data.toList) := by rw [List.drop_append_of_le_length hq.2, h3, List.append_assoc]
    have hrun : Im.Run ((full ++ t.data.toList).drop p) most Im.start c 0 := by rw [hdr]; exact h2.run.ended _ h4
    refine (goes_tail G R _ bk most F c j w1 hG1 h9 h8 h5 hr h6 (by show (g.s ++ t).size ≤ _; omega) (hk h2)).mono ?_
    rintro o w2 ⟨e, rfl, j', ⟨s1, s2, s3, s4, s5, s6⟩, hx⟩
    have hall' : ∀ i, i < j' → Gz.nAt 4 (full ++ t.data.toList) (p + c.pos / 8 + 4 * i) = wantN c.out i := by
      intro i hi
      by_cases hij : i < j
      · rw [Gz.nAt_app _ (by omega)]; exact h12 i hij
      · have := s6 i (by omega) hi
        rw [hs1, nAt_drop, show p + c.pos / 8 + 4 * j + 4 * (i - j) = p + c.pos / 8 + 4 * i by omega] at this
        exact this
    have hl' : p + c.pos / 8 + 4 * j' ≤ (full ++ t.data.toList).length := by rw [hll]; omega
    obtain ⟨t1, t2⟩ := tail_of s4 hall' hl'
    have hF2 : Fr (Own2 G R bk) w w2 := hw1.trans (s2.mono fun k _ e => .inl e)
    rcases hx with ⟨hoe, hx⟩ | ⟨hoe, hj2, hx, hne⟩
    · have h0 : e = 0 := by injection hoe with hoe; injection hoe
      subst h0
      have ht := t1 (by rw [hll]; omega)
      refine ⟨_, _, rfl, ⟨_, s1⟩, hF2, c.out, (if j' = 2 then some (p + c.pos / 8 + 8) else none), .inr (.inr ⟨p, c, 0, hmm, hrun, ?_⟩), .inr ⟨rfl, ?_, bk, ⟨_, s1, he, hr, .inr (.inr ⟨p, j', c, F, _, hmm, (hk h2).gz hG1 s2, hdr, h4, h5, h6, rfl, s4, rfl, hl', ?_, hall', by rw [hll]; omega, rfl⟩)⟩, .inl rfl⟩⟩
      · exact (behind_ok h4 ht).symm
      · rw [List.drop_length]
      · show (({ g with s := g.s ++ t } : Gd).s.extract (4 * (j' - j)) ({ g with s := g.s ++ t } : Gd).s.size).data.toList = _
        rw [drop_list, hs1, List.drop_drop]
        congr 1
        omega
    · have h0 : e = 101 := by injection hoe with hoe; injection hoe
      subst h0
      have ht := t2 hj2 (by rw [hll]; omega) (by
        rw [hs1, nAt_drop, show p + c.pos / 8 + 4 * j + 4 * (j' - j) = p + c.pos / 8 + 4 * j' by omega] at hne
        exact hne)
      refine ⟨_, _, rfl, ⟨_, s1⟩, hF2, [], none, .inr (.inr ⟨p, c, 0, hmm, hrun, ?_⟩), .inl ⟨by omega, rfl, _, s1⟩⟩
      exact (behind_no h4 ht).symm
end Go.Proofs.Ytcjcmlnbchmnnaa
