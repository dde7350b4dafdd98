/- (*gzip.Reader).goes: its contract from the stream on, and of a tail. -/
import Derived.Test.YtcjcmlnbchmnnaaGTail
import Derived.Test.YtcjcmlnbchmnnaaGHead
import Derived.Test.YtcjcmlnbchmnnaaGzRun
namespace Go.Proofs.Ytcjcmlnbchmnnaa
open Go.RowKit

theorem histB_write_ok (R : Nat) (bk : Option Nat) (most : Nat) (full : List UInt8) (c c' : Im.St) (t : ByteArray) (w : World) (h : HistB w R bk most full c) (hs : full.length + t.size ≤ 281474976710656) (hrun : Im.Run (full ++ t.data.toList) most Im.start c' 0) :
    Calls Try.prog 29 #[.pointer (some ⟨R, 0, none⟩), .string t] w fun o w' => o = .returned (.tuple #[.string ⟨(c'.out.drop c.out.length).toArray⟩, .int .i64 0]) ∧ Fr (fun k => k = R ∨ bk = some k) w w' ∧ ∃ bk', HistB w' R bk' most (full ++ t.data.toList) c' ∧ ∀ k, bk' = some k → w.heap.size ≤ k := by
  refine (histB_write R bk most full c t w h hs).mono ?_
  rintro o w' ⟨c2, e2, h1, h2, h3⟩
  obtain ⟨rfl, rfl⟩ := h1.det hrun
  rcases h3 with ⟨h4, _⟩ | ⟨_, h4, h5⟩
  · exact absurd rfl h4
  · exact ⟨h4, h2, h5⟩
theorem histB_write_bad (R : Nat) (bk : Option Nat) (most : Nat) (full : List UInt8) (c c' : Im.St) (e : Int) (t : ByteArray) (w : World) (h : HistB w R bk most full c) (hs : full.length + t.size ≤ 281474976710656) (hrun : Im.Run (full ++ t.data.toList) most Im.start c' e) (he : e ≠ 0) :
    Calls Try.prog 29 #[.pointer (some ⟨R, 0, none⟩), .string t] w fun o w' => o = .returned (.tuple #[.string ⟨#[]⟩, .int .i64 e]) ∧ Fr (fun k => k = R ∨ bk = some k) w w' ∧ Broken w' R e := by
  refine (histB_write R bk most full c t w h hs).mono ?_
  rintro o w' ⟨c2, e2, h1, h2, h3⟩
  obtain ⟨rfl, rfl⟩ := h1.det hrun
  rcases h3 with ⟨_, h4, h5⟩ | ⟨h4, _⟩
  · exact ⟨h4, h2, h5⟩
  · exact absurd h4 he
/-- what may change: the two Readers and bytes of their own -/
def Own2 (G R : Nat) (bk : Option Nat) (k : Nat) : Prop := k = G ∨ k = R ∨ bk = some k
/-- at the stream: bytes S to be written to a Reader that has come to c by F -/
structure AtStream (G R : Nat) (bk : Option Nat) (most : Nat) (g : Gd) (F : List UInt8) (c : Im.St) (S : ByteArray) (w wx : World) : Prop where
  gd : ∃ fl : Int, GdAt wx G { g with st := 5, s := S, p := 0, fl := fl }
  hist : HistB wx R bk most F c
  fr : Fr (· = G) w wx
  r : g.r = .pointer (some ⟨R, 0, none⟩)
  sum : g.sum = (Cm.crc 0 c.out : Nat)
  size : F.length + S.size ≤ 281474976710656
def StreamPost (G R : Nat) (bk : Option Nat) (most : Nat) (g : Gd) (F : List UInt8) (c0 : Im.St) (S : ByteArray) (w : World) (o : Ending) (w' : World) : Prop :=
  Fr (Own2 G R bk) w w' ∧ ∃ c f, Im.Run (F ++ S.data.toList) most Im.start c f ∧
  ((f ≠ 0 ∧ o = .returned (.tuple #[.string ⟨#[]⟩, .int .i64 f]) ∧ ∃ g', GdAt w' G g') ∨
   (f = 0 ∧ ∃ fl bk', HistB w' R bk' most (F ++ S.data.toList) c ∧ (∀ k, bk' = some k → w.heap.size ≤ k) ∧
     ((c.state ≠ 3 ∧ o = .returned (.tuple #[.string ⟨(c.out.drop c0.out.length).toArray⟩, .int .i64 0]) ∧ GdAt w' G { g with st := 5, s := ⟨#[]⟩, p := 0, fl := fl, sum := (Cm.crc 0 c.out : Nat) }) ∨
      (c.state = 3 ∧ ∃ (rs : ByteArray) (j : Nat), rs.data.toList = (F ++ S.data.toList).drop (c.pos / 8) ∧ j ≤ 2 ∧ 4 * j ≤ rs.size ∧ GdAt w' G { g with st := ((6 + j : Nat) : Int), s := rs.extract (4 * j) rs.size, p := 0, fl := fl, sum := (Cm.crc 0 c.out : Nat) } ∧ (∀ i, i < j → Gz.nAt 4 rs.data.toList (4 * i) = wantN c.out i) ∧
        ((o = .returned (.tuple #[.string ⟨(c.out.drop c0.out.length).toArray⟩, .int .i64 0]) ∧ (j = 2 ∨ rs.size < 4 * j + 4)) ∨
         (o = .returned (.tuple #[.string ⟨#[]⟩, .int .i64 101]) ∧ j < 2 ∧ 4 * j + 4 ≤ rs.size ∧ Gz.nAt 4 rs.data.toList (4 * j) ≠ wantN c.out j))))))
theorem GdAt.frS {w w' : World} {G R most : Nat} {g : Gd} {bk : Option Nat} {F : List UInt8} {c : Im.St} (hG : GdAt w G g) (hH : HistB w R bk most F c) (hf : Fr (fun k => k = R ∨ bk = some k) w w') : GdAt w' G g := hG.fr hf (hH.far hG)
theorem tail_e (G R : Nat) (g : Gd) (bk : Option Nat) (most : Nat) (F : List UInt8) (c : Im.St) (w : World) (hG : GdAt w G g) (hst : g.st = 6) (hp : g.p = 0) (hr : g.r = .pointer (some ⟨R, 0, none⟩)) (hsum : g.sum = (Cm.crc 0 c.out : Nat))
    (hs : g.s.size ≤ 281474976710656) (hH : HistB w R bk most F c) (j0 : Nat) (hj : j0 = 0) :
    Calls Try.prog 53 #[.pointer (some ⟨G, 0, none⟩)] w fun o w' => ∃ e, o = .returned (.int .i64 e) ∧ ∃ j, Tailed G g c.out w j0 j w' ∧ ((e = 0 ∧ (j = 2 ∨ g.s.size < 4 * (j - j0) + 4)) ∨ (e = 101 ∧ j < 2 ∧ 4 * (j - j0) + 4 ≤ g.s.size ∧ Gz.nAt 4 g.s.data.toList (4 * (j - j0)) ≠ wantN c.out j)) := by
  refine (tail_go G R g bk most F c j0 w hG (by rw [hj]; exact hst) (by omega) hp hr hsum hs hH).mono ?_
  rintro o w' ⟨j, h1, ⟨rfl, h2⟩ | ⟨rfl, h2⟩⟩
  · exact ⟨0, rfl, j, h1, .inl ⟨rfl, h2⟩⟩
  · exact ⟨101, rfl, j, h1, .inr ⟨rfl, h2⟩⟩
/-- how a Reader comes to the stream: it stands there, or its head ends -/
def Enters (G R : Nat) (bk : Option Nat) (most : Nat) (g : Gd) (F : List UInt8) (c0 : Im.St) (S : ByteArray) (w : World) : Prop :=
  (g.st = 5 ∧ AtStream G R bk most g F c0 S w w) ∨
  (∃ k0 fl0 p0 q : Nat, g.st = k0 ∧ g.fl = fl0 ∧ g.p = p0 ∧ p0 ≤ g.s.size ∧ fl0 < 256 ∧ k0 ≤ 4 ∧ Gz.stg k0 fl0 g.s.data.toList p0 = .ok q ∧ q ≤ g.s.size ∧ S = g.s.extract q g.s.size ∧ F = [] ∧ c0 = Im.start ∧ HistB w R bk most [] Im.start ∧ g.r = .pointer (some ⟨R, 0, none⟩) ∧ g.sum = 0 ∧ g.s.size ≤ 281474976710656)
set_option maxRecDepth 100000 in
set_option maxHeartbeats 8000000 in
theorem goes_stream (G R : Nat) (bk : Option Nat) (most : Nat) (g : Gd) (F : List UInt8) (c0 : Im.St) (S : ByteArray) (w : World) (hG0 : GdAt w G g) (hE : Enters G R bk most g F c0 S w) :
    Calls Try.prog 40 #[.pointer (some ⟨G, 0, none⟩)] w (StreamPost G R bk most g F c0 S w) := by
  have c0st := hG0.st
  obtain ⟨bt, hbt⟩ : ∃ b, decide (g.st < 5) = b := ⟨_, rfl⟩
  go_enter Try.func40, Try.ntmps40
  go_upto_if 13 with fail
  go_cut [] (fun wx => AtStream G R bk most g F c0 S w wx)
  case first =>
    rcases hE with ⟨h5, hA⟩ | ⟨k0, fl0, p0, q, h1, h2, h3, h4, h5, h6, h7, h8, rfl, rfl, rfl, hH, hr, hsum, hsz⟩
    · obtain rfl : bt = false := by rw [← hbt]; exact decide_eq_false (by omega)
      have hAA := Lib.hid hA
      clear hA
      go_wp2_with fail
      go_meet
      exact hAA.out
    · have HD := Lib.hid (head_go G g k0 fl0 p0 w hG0 h1 h2 h3 h4 h5 h6 hsz)
      obtain rfl : bt = true := by rw [← hbt]; exact decide_eq_true (by omega)
      have HQ : ∀ o w', HeadPost G g w k0 fl0 p0 o w' → o = .returned (.tuple #[.bool true, .int .i64 0]) ∧ Hid (AtStream G R bk most g [] Im.start (g.s.extract q g.s.size) w w') := by
        intro o w' hp
        unfold HeadPost at hp
        rw [h7] at hp
        obtain ⟨ho, hF, fl, hg⟩ := hp
        exact ⟨ho, Lib.hid ⟨⟨fl, hg⟩, hH.gz hG0 hF, hF, hr, by rw [hsum]; show (0 : Int) = ((Cm.crc 0 [] : Nat) : Int); rw [Cm.crc_nil 0 (by omega)]; rfl, by rw [ext_size' _ _ _ (Nat.le_refl _), List.length_nil]; omega⟩⟩
      clear h1 h2 h3 h4 h5 h6 h7 h8 hH hsum
      go_wp2_with (go_at_call 51; refine HD.out.mono ?_; intro o w1 hp; obtain ⟨rfl, hA1⟩ := HQ _ _ hp; clear hp)
      go_meet
      exact hA1.out
  case rest =>
    clear hE c0st hG0
    obtain ⟨wa, hwa⟩ : ∃ x : World, x = wc := ⟨wc, rfl⟩
    subst hwa
    obtain ⟨⟨fl, hG⟩, hH, hF, hr, hsum, hsz⟩ := hcut
    obtain ⟨c, f, hrun⟩ := Im.run_exists (F ++ S.data.toList) most Im.start (Nat.zero_le _) (Nat.zero_le _)
    have kst := hG.st
    have ks := hG.s
    have kr := hG.r
    rw [hr] at kr
    have hHd := Lib.hid (hH.below (w' := wa.drew) (Below.refl _ _).drew)
    have hFO : Fr (Own2 G R bk) w wa.drew := (hF.mono fun k _ e => .inl e).drew
    by_cases hf0 : f = 0
    · subst hf0
      have HW := fun w h => Lib.hid (histB_write_ok R bk most F c0 c S w h hsz hrun)
      obtain ⟨og, hog⟩ := hH.run.more hrun
      have hol := (hrun.went (Nat.zero_le _) (Nat.zero_le _)).2.2.2.1 (Nat.zero_le _)
      have hml := hH.most_le
      have hogl : og.length ≤ 140737488355328 := by rw [hog, List.length_append] at hol; omega
      have hosz : (ByteArray.mk og.toArray).size = og.length := by simp [ByteArray.size]
      have HC := fun w => Lib.hid (crc_any (Cm.crc 0 c0.out) ⟨og.toArray⟩ w (Cm.crc_lt _ _) (by rw [hosz]; unfold maxLen; omega))
      have ecr : Cm.crc (Cm.crc 0 c0.out) (ByteArray.mk og.toArray).data.toList = Cm.crc 0 c.out := by rw [hog, ← Cm.crc_append]
      simp only [ecr] at HC
      have edr : c.out.drop c0.out.length = og := by rw [hog, List.drop_left]
      simp only [edr] at HW
      have hrr := Lib.hid hrun
      have hss := Lib.hid hsum
      replace edr := Lib.hid edr
      clear hog hol hml hogl hosz ecr hsum hF
      go_upto_region 8 with fail
      go_cut [6, 7] (fun v1 v2 wx => v1 = .string ⟨og.toArray⟩ ∧ v2 = .int .i64 0 ∧ Fr (Own2 G R bk) w wx ∧ GdAt wx G { g with st := 5, s := S, p := 0, fl := fl } ∧ ∃ bk', HistB wx R bk' most (F ++ S.data.toList) c ∧ ∀ k, bk' = some k → w.heap.size ≤ k)
      case first =>
        have hGd : GdAt wa.drew G { g with st := 5, s := S, p := 0, fl := fl } := hG.drew
        have HQ : ∀ w3, Fr (fun k => k = R ∨ bk = some k) wa.drew w3 → (∃ bk', HistB w3 R bk' most (F ++ S.data.toList) c ∧ ∀ k, bk' = some k → wa.drew.heap.size ≤ k) → Hid (Fr (Own2 G R bk) w w3 ∧ GdAt w3 G { g with st := 5, s := S, p := 0, fl := fl } ∧ ∃ bk', HistB w3 R bk' most (F ++ S.data.toList) c ∧ ∀ k, bk' = some k → w.heap.size ≤ k) := by
          rintro w3 h1 ⟨bk', h2, h3⟩
          exact Lib.hid ⟨hFO.trans (h1.mono fun k _ e => .inr e), hGd.frS hHd.out h1, bk', h2, fun k hk => Nat.le_trans hFO.size (h3 k hk)⟩
        clear hFO hGd hG
        go_region_with (go_at_call 29; refine (HW _ hHd.out).out.mono ?_; rintro o w3 ⟨rfl, hF3, hb3⟩)
        all_goals
          have HQ3 := HQ _ hF3 hb3
          clear hF3 hb3
          go_wp2_with fail
          go_meet
          exact ⟨rfl, rfl, HQ3.out⟩
      case rest =>
        clear kst ks kr hHd hFO HW hG
        obtain ⟨rfl, rfl, hF3, hG3, bk', hH3, hbk⟩ := hcut
        obtain ⟨w3, hw3⟩ : ∃ x : World, x = wc := ⟨wc, rfl⟩
        subst hw3
        have ks3 := hG3.s
        have fs3 := hG3.frozen 1
        have ksm3 := hG3.sum
        rw [show ({ g with st := 5, s := S, p := 0, fl := fl } : Gd).sum = (Cm.crc 0 c0.out : Nat) from hss.out] at ksm3
        have fsm3 := hG3.frozen 5
        have kr3 := hG3.r
        rw [show ({ g with st := 5, s := S, p := 0, fl := fl } : Gd).r = .pointer (some ⟨R, 0, none⟩) from hr] at kr3
        have hG4 : GdAt ((w3.setCell ⟨G, 1, none⟩ (.string ⟨#[]⟩)).setCell ⟨G, 5, none⟩ (.int .u32 (Cm.crc 0 c.out : Nat))) G { g with st := 5, s := ⟨#[]⟩, p := 0, fl := fl, sum := (Cm.crc 0 c.out : Nat) } :=
          GdAt.set (g := { g with st := 5, s := ⟨#[]⟩, p := 0, fl := fl }) (hG3.set 1 _ rfl) 5 _ rfl
        have hf34 : Fr (· = G) w3 ((w3.setCell ⟨G, 1, none⟩ (.string ⟨#[]⟩)).setCell ⟨G, 5, none⟩ (.int .u32 (Cm.crc 0 c.out : Nat))) := ((Fr.refl (· = G) w3).setCell (p := ⟨G, 1, none⟩) (Or.inl rfl) _).setCell (p := ⟨G, 5, none⟩) (Or.inl rfl) _
        have hH4 := hH3.gz hG3 hf34
        have hF4 : Fr (Own2 G R bk) w _ := hF3.trans (hf34.mono fun k _ e => .inl e)
        generalize hcr : Cm.crc 0 c.out = cr at *
        replace hG4 := Lib.hid hG4
        replace hH4 := Lib.hid hH4
        replace hF4 := Lib.hid hF4
        clear hf34 hG3 hH3 hF3
        go_upto_region 13 with (go_at_call 52; refine (HC _).out.mono ?_; rintro o w' ⟨rfl, rfl⟩)
        generalize hw4 : (w3.setCell ⟨G, 1, none⟩ (.string ⟨#[]⟩)).setCell ⟨G, 5, none⟩ (.int .u32 (cr : Nat)) = w4 at *
        clear hw4 ks3 fs3 ksm3 fsm3 kr3 HC
        have kr4 := hG4.out.r
        rw [show ({ g with st := 5, s := ⟨#[]⟩, p := 0, fl := fl, sum := (cr : Nat) } : Gd).r = .pointer (some ⟨R, 0, none⟩) from hr] at kr4
        have HDo := Lib.hid (hist_done R 0 most (F ++ S.data.toList) c w4 hH4.out.hist)
        by_cases h3 : c.state = 3
        · have HRe := Lib.hid (hist_rest R 0 most (F ++ S.data.toList) c w4 hH4.out.hist)
          rw [decide_eq_true h3] at HDo
          rw [if_pos h3] at HRe
          obtain ⟨rs, hrs⟩ : ∃ rs : ByteArray, rs = ⟨((F ++ S.data.toList).drop (c.pos / 8)).toArray⟩ := ⟨_, rfl⟩
          rw [← hrs] at HRe
          have hrl : rs.data.toList = (F ++ S.data.toList).drop (c.pos / 8) := by rw [hrs]
          have hrsz : rs.size ≤ 281474976710656 := by rw [← blen, hrl, List.length_drop, List.length_append, blen]; omega
          have kst4 := hG4.out.st
          have ks4 := hG4.out.s
          have fst4 := hG4.out.frozen 0
          have fs4 := hG4.out.frozen 1
          have hG5 : GdAt ((w4.setCell ⟨G, 1, none⟩ (.string rs)).setCell ⟨G, 0, none⟩ (.int .i64 6)) G { g with st := 6, s := rs, p := 0, fl := fl, sum := (cr : Nat) } :=
            GdAt.set (g := { g with st := 5, s := rs, p := 0, fl := fl, sum := (cr : Nat) }) (hG4.out.set 1 _ rfl) 0 _ rfl
          have hf45 : Fr (· = G) w4 ((w4.setCell ⟨G, 1, none⟩ (.string rs)).setCell ⟨G, 0, none⟩ (.int .i64 6)) := ((Fr.refl (· = G) w4).setCell (p := ⟨G, 1, none⟩) (Or.inl rfl) _).setCell (p := ⟨G, 0, none⟩) (Or.inl rfl) _
          have hH5 := hH4.out.gz hG4.out hf45
          have hF5 : Fr (Own2 G R bk) w _ := hF4.out.trans (hf45.mono fun k _ e => .inl e)
          have hfb : ∀ k, bk' = some k → w.heap.size ≤ k := hbk
          replace hG5 := Lib.hid hG5
          replace hH5 := Lib.hid hH5
          replace hF5 := Lib.hid hF5
          have hh3 := Lib.hid h3
          clear hf45 h3 hrs
          go_upto_region 15 with (first | (go_at_call 30; refine HDo.out.mono ?_; rintro o w' ⟨rfl, rfl⟩) | (go_at_call 31; refine HRe.out.mono ?_; rintro o w' ⟨rfl, rfl⟩))
          generalize hw5 : (w4.setCell ⟨G, 1, none⟩ (.string rs)).setCell ⟨G, 0, none⟩ (.int .i64 6) = w5 at *
          clear hw5 kst4 ks4 fst4 fs4 kr4 HDo HRe
          have HT := Lib.hid (tail_e G R _ bk' most (F ++ S.data.toList) c w5 hG5.out rfl rfl hr (by rw [hcr]) hrsz hH5.out 0 rfl)
          have HQ : ∀ e w6 j, Tailed G { g with st := 6, s := rs, p := 0, fl := fl, sum := (cr : Nat) } c.out w5 0 j w6 → ((e = 0 ∧ (j = 2 ∨ rs.size < 4 * (j - 0) + 4)) ∨ (e = 101 ∧ j < 2 ∧ 4 * (j - 0) + 4 ≤ rs.size ∧ Gz.nAt 4 rs.data.toList (4 * (j - 0)) ≠ wantN c.out j)) → Hid ((e = 0 → StreamPost G R bk most g F c0 S w (.returned (.tuple #[.string ⟨og.toArray⟩, .int .i64 0])) w6) ∧ (e ≠ 0 → StreamPost G R bk most g F c0 S w (.returned (.tuple #[.string ⟨#[]⟩, .int .i64 e])) w6)) := by
            intro e w6 j hT hx
            obtain ⟨t1, t2, t3, t4, t5, t6⟩ := hT
            have hcr2 : (cr : Int) = ((Cm.crc 0 c.out : Nat) : Int) := by rw [hcr]
            have hH6 := hH5.out.gz hG5.out t2
            have hF6 : Fr (Own2 G R bk) w w6 := hF5.out.trans (t2.mono fun k _ e => .inl e)
            rw [Nat.sub_zero] at t1 t5 hx
            have t6' : ∀ i, i < j → Gz.nAt 4 rs.data.toList (4 * i) = wantN c.out i := fun i hi => by have := t6 i (Nat.zero_le _) hi; rw [Nat.sub_zero] at this; exact this
            have t1' : GdAt w6 G { g with st := ((6 + j : Nat) : Int), s := rs.extract (4 * j) rs.size, p := 0, fl := fl, sum := (Cm.crc 0 c.out : Nat) } := by rw [hcr]; exact t1
            have he := edr.out
            refine Lib.hid ⟨fun e0 => ?_, fun e0 => ?_⟩
            · rcases hx with ⟨_, hx⟩ | ⟨hx, _⟩
              · exact ⟨hF6, c, 0, hrr.out, .inr ⟨rfl, fl, bk', hH6, hfb, .inr ⟨hh3.out, rs, j, hrl, t4, t5, t1', t6', .inl ⟨by rw [he], hx⟩⟩⟩⟩
              · omega
            · rcases hx with ⟨hx, _⟩ | ⟨hx, h2⟩
              · exact absurd hx e0
              · exact ⟨hF6, c, 0, hrr.out, .inr ⟨rfl, fl, bk', hH6, hfb, .inr ⟨hh3.out, rs, j, hrl, t4, t5, t1', t6', .inr ⟨by rw [hx], h2⟩⟩⟩⟩
          clear hG4 hH4 hF4 hG5 hH5 hF5 hrl hbk hfb
          go_wp2_with (go_at_call 53; refine HT.out.mono ?_; rintro o w6 ⟨e, rfl, j, hT6, hx6⟩; have HQ6 := HQ e w6 j hT6 hx6; clear hT6 hx6)
          · go_ret2
            exact HQ6.out.2 (by rename_i h; simpa using h)
          · go_ret2
            exact HQ6.out.1 (by rename_i h; simpa using h)
        · rw [decide_eq_false h3] at HDo
          have HT := Lib.hid (tail_none G _ w4 hG4.out (by show (5 : Int) ≠ 6; omega) (by show (5 : Int) ≠ 7; omega))
          have HQ : Hid (StreamPost G R bk most g F c0 S w (.returned (.tuple #[.string ⟨og.toArray⟩, .int .i64 0])) w4) :=
            Lib.hid ⟨hF4.out, c, 0, hrr.out, .inr ⟨rfl, fl, bk', hH4.out, hbk, .inl ⟨h3, by rw [edr.out], by rw [hcr]; exact hG4.out⟩⟩⟩
          clear h3 hbk hcr
          go_wp2_with (first | (go_at_call 30; refine HDo.out.mono ?_; rintro o w' ⟨rfl, rfl⟩) | (go_at_call 53; refine HT.out.mono ?_; rintro o w' ⟨rfl, rfl⟩))
          go_ret2
          exact HQ.out
    · have HW := fun w h => Lib.hid (histB_write_bad R bk most F c0 c f S w h hsz hrun hf0)
      have q1 : (f != 0) = true := by simpa using hf0
      have hrr := Lib.hid hrun
      have hff := Lib.hid hf0
      have hGd : GdAt wa.drew G { g with st := 5, s := S, p := 0, fl := fl } := hG.drew
      have HQ : ∀ w3, Fr (fun k => k = R ∨ bk = some k) wa.drew w3 → Hid (StreamPost G R bk most g F c0 S w (.returned (.tuple #[.string ⟨#[]⟩, .int .i64 f])) w3) := fun w3 h1 =>
        Lib.hid ⟨hFO.trans (h1.mono fun k _ e => .inr e), c, f, hrr.out, .inl ⟨hff.out, rfl, _, hGd.frS hHd.out h1⟩⟩
      clear hrun hf0 hFO hGd hG
      go_upto_region 8 with fail
      go_region_with (go_at_call 29; refine (HW _ hHd.out).out.mono ?_; rintro o w3 ⟨rfl, hF3, hb3⟩)
      all_goals
        have HQ3 := HQ _ hF3
        clear hF3 hb3
        go_wp2_with fail
        go_ret2
        exact HQ3.out
end Go.Proofs.Ytcjcmlnbchmnnaa
