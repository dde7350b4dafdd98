/- A Reader and all bytes that it was written so far, and which blocks are its own: what other calls leave of it, and what it leaves of others. · (*gzip.Reader).tail: its contract. -/
import Derived.Test.YtcjcmlnbchmnnaaIHist
import Derived.Test.YtcjcmlnbchmnnaaGd
/-! ### IHistB -/
namespace Go.Proofs.Ytcjcmlnbchmnnaa
open Go.RowKit

theorem Im.Run.more {full t : List UInt8} {most : Nat} {b c : Im.St} {e : Int} (h : Im.Run full most Im.start b 0) (h2 : Im.Run (full ++ t) most Im.start c e) : ∃ o, c.out = b.out ++ o := by
  have hb := h.went (Nat.zero_le _) (Nat.zero_le _)
  obtain ⟨c', e', h3⟩ := Im.run_exists (full ++ t) most b (by rw [List.length_append]; have := hb.1; omega) hb.2.2.2.2.2
  obtain ⟨rfl, rfl⟩ := (h.then t rfl h3).det h2
  exact (h3.went (by rw [List.length_append]; have := hb.1; omega) hb.2.2.2.2.2).2.2.1
/-- the Reader in block R has come to the model's state c by these bytes; its own memory beside R is the block bk -/
def HistB (w : World) (R : Nat) (bk : Option Nat) (most : Nat) (full : List UInt8) (c : Im.St) : Prop :=
  ∃ r a k, Rests w R r most a ∧ r.s.data.toList = full.drop k ∧ k ≤ full.length ∧ c = a.up k ∧ a.pos < 8 ∧ Im.Run full most Im.start c 0 ∧ r.back.ownBlock = bk
/-- a row that a call of a Reader's may change -/
def SomeRow (w : World) (k : Nat) : Prop := ∃ c T, w.heap[k]? = some (.cells c T (0, 0)) ∧ (T = 69 ∨ T = 5 ∨ T = 61)
theorem TableAt.frS {w w' : World} {S : Nat → Prop} {T : Nat} {ns : List Nat} (h : TableAt w T ns) (hf : Fr S w w') (hS : ∀ k, S k → k < w.heap.size → SomeRow w k) : TableAt w' T ns := by
  obtain ⟨M, n, hcT, D, ⟨es, clock, q1, q2⟩, q3⟩ := h
  refine ⟨M, n, ?_, D, ⟨es, clock, ?_, q2⟩, q3⟩
  · rw [hf.block T (lt_of_block hcT)]
    · exact hcT
    · intro hST
      obtain ⟨c, U, h1, h2⟩ := hS T hST (lt_of_block hcT)
      rw [hcT] at h1
      injection h1 with h1
      injection h1 with _ h1
      subst h1
      rcases h2 with q | q | q <;> exact absurd q (by decide)
  · rw [hf.block M (lt_of_block q1)]
    · exact q1
    · intro hST
      obtain ⟨c, U, h1, h2⟩ := hS M hST (lt_of_block q1)
      rw [q1] at h1
      cases h1
theorem Rests.frS {w w' : World} {S : Nat → Prop} {R most : Nat} {r : Rd} {a : Im.St} (h : Rests w R r most a) (hf : Fr S w w') (hR : ¬ S R) (hb : ∀ k, r.back.ownBlock = some k → ¬ S k) (hS : ∀ k, S k → k < w.heap.size → SomeRow w k) : Rests w' R r most a := by
  have hback : OutAt w' 0 r.back (lastN 32768 a.out) := by
    refine ⟨h.st.back.1.1, ?_⟩
    rcases h.st.back.1.2 with q | ⟨g, cap, cur, e1, e2, e3, e4⟩
    · exact .inl q
    · refine .inr ⟨g, cap, cur, e1, e2, ?_, e4⟩
      rw [hf.block g (lt_of_block e3) (hb g (by rw [e1]; rfl))]
      exact e3
  have htab : ∀ v ns, TabAt w v ns → TabAt w' v ns := fun v ns ⟨T, h1, h2, h3⟩ => ⟨T, h1, h2.frS hf hS, h3⟩
  exact ⟨{ at_ := h.st.at_.fr hf hR, bit := h.st.bit, state := h.st.state, last := h.st.last, left := h.st.left, told := h.st.told, most_ := h.st.most_, e := h.st.e, out := ⟨[], by simp, by rw [h.out]; exact OutAt.nil _ _⟩, back := ⟨hback, fun k hk => Nat.lt_of_lt_of_le (h.st.back.2 k hk) hf.size⟩, tabs := fun e => ⟨htab _ _ (h.st.tabs e).1, htab _ _ (h.st.tabs e).2⟩, base := Nat.le_refl _, pos_le := h.st.pos_le, size_le := h.st.size_le, out_le := h.st.out_le, most_le := h.st.most_le, left_le := h.st.left_le, state_le := h.st.state_le, one := h.st.one }, h.out⟩
theorem HistB.frS {w w' : World} {S : Nat → Prop} {R most : Nat} {bk : Option Nat} {full : List UInt8} {c : Im.St} (h : HistB w R bk most full c) (hf : Fr S w w') (hR : ¬ S R) (hb : ∀ k, bk = some k → ¬ S k) (hS : ∀ k, S k → k < w.heap.size → SomeRow w k) : HistB w' R bk most full c := by
  obtain ⟨r, a, k, hr, h1, h2, h3, h4, h5, rfl⟩ := h
  exact ⟨r, a, k, hr.frS hf hR hb hS, h1, h2, h3, h4, h5, rfl⟩
theorem HistB.hist {w : World} {R most : Nat} {bk : Option Nat} {full : List UInt8} {c : Im.St} (h : HistB w R bk most full c) : Hist w R 0 most full c := by
  obtain ⟨r, a, k, hr, h1, h2, h3, h4, h5, _⟩ := h
  exact ⟨r, a, k, hr, h1, h2, h3, h4, h5, Nat.zero_le _, fun _ _ => Nat.zero_le _⟩
theorem HistB.run {w : World} {R most : Nat} {bk : Option Nat} {full : List UInt8} {c : Im.St} (h : HistB w R bk most full c) : Im.Run full most Im.start c 0 := by obtain ⟨r, a, k, _, _, _, _, _, h5, _⟩ := h; exact h5
theorem HistB.lt {w : World} {R most : Nat} {bk : Option Nat} {full : List UInt8} {c : Im.St} (h : HistB w R bk most full c) : R < w.heap.size := by obtain ⟨r, a, k, hr, _⟩ := h; exact hr.st.at_.lt
theorem HistB.most_le {w : World} {R most : Nat} {bk : Option Nat} {full : List UInt8} {c : Im.St} (h : HistB w R bk most full c) : most ≤ 140737488355328 := by obtain ⟨r, a, k, hr, _⟩ := h; exact hr.st.most_le
/-- its own blocks are rows of a Reader and of bytes -/
theorem HistB.rows {w : World} {R most : Nat} {bk : Option Nat} {full : List UInt8} {c : Im.St} (h : HistB w R bk most full c) : (∃ cs, w.heap[R]? = some (.cells cs 69 (0, 0))) ∧ ∀ k, bk = some k → ByteRow w k := by
  obtain ⟨r, a, k, hr, _, _, _, _, _, rfl⟩ := h
  exact ⟨⟨_, hr.st.at_⟩, fun k hk => (hr.st.back.1.row k hk).2⟩
theorem HistB.some {w : World} {R most : Nat} {bk : Option Nat} {full : List UInt8} {c : Im.St} (h : HistB w R bk most full c) : ∀ k, k = R ∨ bk = some k → k < w.heap.size → SomeRow w k := by
  intro k hk _
  obtain ⟨⟨cs, h1⟩, h2⟩ := h.rows
  rcases hk with rfl | hk
  · exact ⟨cs, _, h1, .inl rfl⟩
  · obtain ⟨cs, h3⟩ := h2 k hk
    exact ⟨cs, _, h3, .inr (.inl rfl)⟩
/-- a gzip Reader's row is none of its own -/
theorem HistB.far {w : World} {R most G : Nat} {g : Gd} {bk : Option Nat} {full : List UInt8} {c : Im.St} (h : HistB w R bk most full c) (hG : GdAt w G g) : ¬ (G = R ∨ bk = Option.some G) := by
  obtain ⟨⟨cs, h1⟩, h2⟩ := h.rows
  unfold GdAt at hG
  rintro (rfl | hk)
  · rw [h1] at hG
    injection hG with hG
    injection hG with _ hG
    exact absurd hG (by decide)
  · obtain ⟨cs, h3⟩ := h2 G hk
    rw [h3] at hG
    injection hG with hG
    injection hG with _ hG
    exact absurd hG (by decide)
/-- the gzip Reader's cells alone have changed -/
theorem HistB.gz {w w' : World} {R most G : Nat} {g : Gd} {bk : Option Nat} {full : List UInt8} {c : Im.St} (h : HistB w R bk most full c) (hG : GdAt w G g) (hf : Fr (· = G) w w') : HistB w' R bk most full c := by
  have hfar := h.far hG
  refine h.frS hf (fun e => hfar (.inl e.symm)) (fun k hk e => hfar (.inr (by rw [← e]; exact hk))) (fun k hk _ => ?_)
  subst hk
  exact ⟨_, _, hG, .inr (.inr rfl)⟩
theorem HistB.below {w w' : World} {R most : Nat} {bk : Option Nat} {full : List UInt8} {c : Im.St} (h : HistB w R bk most full c) (hb : Below w.heap.size w w') : HistB w' R bk most full c :=
  h.frS (S := fun _ => False) (Fr.of_below hb) (fun q => q) (fun _ _ q => q) (fun _ q => q.elim)
theorem histB_new (most : Nat) (w : World) (hm : most ≤ 140737488355328) :
    Calls Try.prog 28 #[.int .i64 (most : Int)] w fun o w' => o = .returned (.tuple #[.pointer (some ⟨w.heap.size, 0, none⟩), .int .i64 0]) ∧ HistB w' w.heap.size none most [] Im.start ∧ Below w.heap.size w w' := by
  refine (new_yes (most : Int) w (by omega)).mono ?_
  rintro o w' ⟨rfl, rfl⟩
  exact ⟨rfl, ⟨_, _, 0, rests_new w most hm, rfl, Nat.le_refl _, rfl, by simp [Im.start], run_nil most, rfl⟩, (Below.refl _ w).alloc (Nat.le_refl _) _⟩
/-- what Write comes to -/
def HistBPost (R : Nat) (bk : Option Nat) (most : Nat) (full : List UInt8) (c : Im.St) (w : World) (o : Ending) (w' : World) : Prop :=
  ∃ c' e, Im.Run full most Im.start c' e ∧ Fr (fun k => k = R ∨ bk = some k) w w' ∧
    ((e ≠ 0 ∧ o = .returned (.tuple #[.string ⟨#[]⟩, .int .i64 e]) ∧ Broken w' R e) ∨
     (e = 0 ∧ o = .returned (.tuple #[.string ⟨(c'.out.drop c.out.length).toArray⟩, .int .i64 0]) ∧ ∃ bk', HistB w' R bk' most full c' ∧ ∀ k, bk' = some k → w.heap.size ≤ k))
theorem histB_write (R : Nat) (bk : Option Nat) (most : Nat) (full : List UInt8) (c : Im.St) (t : ByteArray) (w : World) (h : HistB w R bk most full c) (hs : full.length + t.size ≤ 281474976710656) :
    Calls Try.prog 29 #[.pointer (some ⟨R, 0, none⟩), .string t] w (HistBPost R bk most (full ++ t.data.toList) c w) := by
  obtain ⟨r, a, k, hr, hrs, hk, hc, hp8, hrun, rfl⟩ := h
  have hsz : r.s.size = full.length - k := by rw [← blen, hrs, List.length_drop]
  refine (write_model R r most a t w hr (by omega)).mono ?_
  rintro o w' ⟨b, e, hb, hw⟩
  rw [hrs] at hb hw
  have hn := Im.Run.next hrun hc hk hb
  have hwent := hb.went (by rw [List.length_append, List.length_drop]; have := hr.st.pos_le; omega) hr.st.state_le
  refine ⟨b.up k, e, hn, ?_⟩
  rcases hw with ⟨he, ho, ⟨r', h1, h2⟩, hf⟩ | ⟨he, ho, ⟨r', h1, h2, h3⟩, hf⟩
  · exact ⟨hf.mono fun _ _ q => .inl q, .inl ⟨he, ho, r', h1, h2⟩⟩
  · refine ⟨hf, .inr ⟨he, ?_, _, ⟨r', _, k + b.pos / 8, h1, ?_, ?_, ?_, Nat.mod_lt _ (by omega), by rw [← he]; exact hn, rfl⟩, h3⟩⟩
    · rw [ho, hc]; rfl
    · rw [h2, ← List.drop_drop, List.drop_append_of_le_length hk]
    · have := hwent.1; rw [List.length_append, List.length_drop] at this; rw [List.length_append]; omega
    · unfold Im.St.up
      simp only
      congr 1
      omega
end Go.Proofs.Ytcjcmlnbchmnnaa
/-! ### GTail -/
namespace Go.Proofs.Ytcjcmlnbchmnnaa
open Go.RowKit

/-- what the tail's numbers must be -/
def wantN (out : List UInt8) (j : Nat) : Nat := if j = 0 then Cm.crc 0 out else out.length % 4294967296
/-- a tail of which j numbers are read; it began with j0 -/
def Tailed (G : Nat) (g : Gd) (out : List UInt8) (w : World) (j0 j : Nat) (w' : World) : Prop :=
  GdAt w' G { g with st := ((6 + j : Nat) : Int), s := g.s.extract (4 * (j - j0)) g.s.size } ∧ Fr (· = G) w w' ∧ j0 ≤ j ∧ j ≤ 2 ∧ 4 * (j - j0) ≤ g.s.size ∧
  ∀ i, j0 ≤ i → i < j → Gz.nAt 4 g.s.data.toList (4 * (i - j0)) = wantN out i
def TailPost (G : Nat) (g : Gd) (out : List UInt8) (w : World) (j0 : Nat) (o : Ending) (w' : World) : Prop :=
  ∃ j, Tailed G g out w j0 j w' ∧
    ((o = .returned (.int .i64 0) ∧ (j = 2 ∨ g.s.size < 4 * (j - j0) + 4)) ∨
     (o = .returned (.int .i64 101) ∧ j < 2 ∧ 4 * (j - j0) + 4 ≤ g.s.size ∧ Gz.nAt 4 g.s.data.toList (4 * (j - j0)) ≠ wantN out j))
theorem ext_all (s : ByteArray) : s.extract 0 s.size = s := by simp
theorem bytes_ext {a b : ByteArray} (h : a.data.toList = b.data.toList) : a = b := ByteArray.ext (Array.ext' h)
theorem ext_ext (s : ByteArray) (a b : Nat) : (s.extract a s.size).extract b (s.extract a s.size).size = s.extract (a + b) s.size := by
  apply bytes_ext
  rw [drop_list, drop_list, drop_list, List.drop_drop]
theorem low32 (x : Nat) (h : x < 9223372036854775808) : bits BinOp.and IntKind.i64 (x : Int) 4294967295 = ((x % 4294967296 : Nat) : Int) := by
  have e := bits_and_i64 x 4294967295 h (by omega)
  have : x &&& 4294967295 = x % 4294967296 := Nat.and_two_pow_sub_one_eq_mod x 32
  rw [this] at e
  exact e
theorem tail_none (G : Nat) (g : Gd) (w : World) (hG : GdAt w G g) (h6 : g.st ≠ 6) (h7 : g.st ≠ 7) :
    Calls Try.prog 53 #[.pointer (some ⟨G, 0, none⟩)] w fun o w' => o = .returned (.int .i64 0) ∧ w = w' := by
  have c0 := hG.st
  have q6 : (g.st == 6) = false := by simpa using h6
  have q7 : (g.st == 7) = false := by simpa using h7
  clear hG h6 h7
  generalize g.st = st at *
  go_enter Try.func53, Try.ntmps53
  go_wp2_with fail
  go_loopw [] (fun wr => w = wr) (fun _ => 0)
  case atStart => rfl
  case round =>
    subst hrel
    go_wp2_with fail
    go_ret
    exact ⟨rfl, rfl⟩
set_option maxRecDepth 100000 in
set_option maxHeartbeats 4000000 in
theorem tail_go (G R : Nat) (g : Gd) (bk : Option Nat) (most : Nat) (F : List UInt8) (c : Im.St) (j0 : Nat) (w : World) (hG : GdAt w G g) (hst : g.st = ((6 + j0 : Nat) : Int)) (hj0 : j0 ≤ 2) (hp : g.p = 0) (hr : g.r = .pointer (some ⟨R, 0, none⟩)) (hsum : g.sum = (Cm.crc 0 c.out : Nat))
    (hs : g.s.size ≤ 281474976710656) (hH : HistB w R bk most F c) :
    Calls Try.prog 53 #[.pointer (some ⟨G, 0, none⟩)] w (TailPost G g c.out w j0) := by
  have hT0 : Tailed G g c.out w j0 j0 w := ⟨by rw [← hst, Nat.sub_self, Nat.mul_zero, ext_all]; exact hG, Fr.refl _ _, Nat.le_refl _, hj0, by omega, fun i h1 h2 => by omega⟩
  have hol : c.out.length ≤ 140737488355328 := Nat.le_trans ((hH.run.went (Nat.zero_le _) (Nat.zero_le _)).2.2.2.1 (Nat.zero_le _)) hH.most_le
  go_enter Try.func53, Try.ntmps53
  go_wp2_with fail
  go_loopw [] (fun wr => ∃ j, Tailed G g c.out w j0 j wr) (fun wr => match wr.cell? ⟨G, 0, none⟩ with | some v => 8 - (intOf v).toNat | none => 0)
  case atStart => exact ⟨j0, hT0⟩
  case round =>
    clear hT0 hst hj0
    obtain ⟨j, hGx, hFx, hjj, hj2, hd, hall⟩ := hrel
    have hHx := hH.gz hG hFx
    rcases (by omega : j = 0 ∨ j = 1 ∨ j = 2) with rfl | rfl | rfl
    · have kst : wr.cell? ⟨G, 0, none⟩ = some (.int .i64 6) := hGx.st
      by_cases hl : g.s.size < 4 * (0 - j0) + 4
      · have HN := Lib.hid (number_no G _ 0 4 wr hGx hp (by omega) (by show (g.s.extract (4 * (0 - j0)) g.s.size).size ≤ _; rw [ext_size' _ _ _ (Nat.le_refl _)]; omega) (Nat.zero_le _) (by show (g.s.extract (4 * (0 - j0)) g.s.size).size < _; rw [ext_size' _ _ _ (Nat.le_refl _)]; omega))
        rw [show ((4 : Nat) : Int) = 4 from rfl] at HN
        have HQ : ∀ w', Below wr.heap.size wr w' → Hid (TailPost G g c.out w j0 (.returned (.int .i64 0)) w') := fun w' hb => Lib.hid ⟨0, ⟨hGx.below hb, hFx.below hb, hjj, by omega, hd, hall⟩, .inl ⟨rfl, .inr hl⟩⟩
        clear hall hd hl hGx hFx hHx
        go_wp2_with (go_at_call 69; refine HN.out.mono ?_; rintro o w1 ⟨rfl, hb1⟩)
        go_ret
        exact (HQ _ hb1).out
      · have HN := Lib.hid (number_yes G _ 0 4 wr hGx hp (by omega) (by omega) (by show (g.s.extract (4 * (0 - j0)) g.s.size).size ≤ _; rw [ext_size' _ _ _ (Nat.le_refl _)]; omega) (by show 0 + 4 ≤ (g.s.extract (4 * (0 - j0)) g.s.size).size; rw [ext_size' _ _ _ (Nat.le_refl _)]; omega))
        have HN2 : Hid (Calls Try.prog 69 #[.pointer (some ⟨G, 0, none⟩), .int .i64 4] wr fun o w' => o = .returned (.tuple #[.int .i64 (Gz.nAt 4 g.s.data.toList (4 * (0 - j0)) : Int), .bool true]) ∧ Below wr.heap.size wr w') := by
          have e : Gz.nAt 4 (g.s.extract (4 * (0 - j0)) g.s.size).data.toList 0 = Gz.nAt 4 g.s.data.toList (4 * (0 - j0)) := by unfold Gz.nAt; rw [drop_list, List.drop_zero]
          rw [← e]
          exact HN
        have hsz4 : 4 ≤ (g.s.extract (4 * (0 - j0)) g.s.size).size := by rw [ext_size' _ _ _ (Nat.le_refl _)]; omega
        have hext := ext_ext g.s (4 * (0 - j0)) 4
        have hjn : 4 * (0 - j0) + 4 = 4 * (0 + 1 - j0) := by omega
        rw [hjn] at hext
        by_cases hne : Gz.nAt 4 g.s.data.toList (4 * (0 - j0)) = wantN c.out 0
        · have HQ : ∀ w', GdAt w' G { g with st := ((6 + 0 + 1 : Nat) : Int), s := g.s.extract (4 * (0 + 1 - j0)) g.s.size } → Fr (· = G) wr w' → Hid (Tailed G g c.out w j0 (0 + 1) w') := fun w' h1 h2 => Lib.hid ⟨h1, hFx.trans h2, by omega, by omega, by omega, fun i h3 h4 => by
            by_cases hij : i = 0
            · subst hij; exact hne
            · exact hall i h3 (by omega)⟩
          rw [hne] at HN2
          have hw : wantN c.out 0 = Cm.crc 0 c.out := rfl
          rw [hw] at HN2
          have hcl := Cm.crc_lt 0 c.out
          generalize Cm.crc 0 c.out = v at *
          clear hall hd hl HN hne hw
          generalize g.s.extract (4 * (0 - j0)) g.s.size = S1 at *
          generalize g.s.extract (4 * (0 + 1 - j0)) g.s.size = S2 at *
          have e64 : IntKind.i64.wrap ((v : Int)) = (v : Int) := IntWalk.i64_in _ (by omega)
          go_wp2_with (first | (go_at_call 69; refine HN2.out.mono ?_; rintro o w1 ⟨rfl, hb1⟩; have hg1 := hGx.below hb1; have hH1 := Lib.hid (hHx.below hb1); have ks1 := hg1.s; have kst1 := hg1.st; have kr1 := hg1.r; have ksm1 := hg1.sum; have fs1 := hg1.frozen 1; have fst1 := hg1.frozen 0; rw [hr] at kr1; rw [hsum] at ksm1; replace hg1 := Lib.hid hg1))
          go_roundw
          case rel =>
            refine ⟨0 + 1, (HQ _ ?_ ?_).out⟩
            · rw [← hext]
              exact GdAt.set (g := { g with st := ((6 + 0 : Nat) : Int), s := S1.extract 4 S1.size }) (hg1.out.set 1 _ rfl) 0 _ rfl
            · exact ((Fr.of_below hb1 : Fr (· = G) wr w1).setCell (p := ⟨G, 1, none⟩) (Or.inl rfl) _).setCell (p := ⟨G, 0, none⟩) (Or.inl rfl) _
          case measure =>
            have hn : ((w1.setCell ⟨G, 1, none⟩ (.string S2)).setCell ⟨G, 0, none⟩ (.int .i64 7)).cell? ⟨G, 0, none⟩ = some (.int .i64 7) := GdAt.st (g := { g with st := 7, s := S2 }) (GdAt.set (g := { g with st := ((6 + 0 : Nat) : Int), s := S2 }) (hg1.out.set 1 _ rfl) 0 _ rfl)
            rw [hn, kst]
            simp [intOf]
        · have HQ : ∀ w', Below wr.heap.size wr w' → Hid (TailPost G g c.out w j0 (.returned (.int .i64 101)) w') := fun w' hb => Lib.hid ⟨0, ⟨hGx.below hb, hFx.below hb, hjj, by omega, hd, hall⟩, .inr ⟨rfl, by omega, by omega, hne⟩⟩
          have hw : wantN c.out 0 = Cm.crc 0 c.out := rfl
          rw [hw] at hne
          have hcl := Cm.crc_lt 0 c.out
          generalize Cm.crc 0 c.out = v at *
          generalize Gz.nAt 4 g.s.data.toList (4 * (0 - j0)) = n at *
          have q1 : ((n : Int) != (v : Int)) = true := by simp; omega
          have e64 : IntKind.i64.wrap ((v : Int)) = (v : Int) := IntWalk.i64_in _ (by omega)
          clear hall hd hl HN hne hw
          generalize g.s.extract (4 * (0 - j0)) g.s.size = S1 at *
          go_wp2_with (first | (go_at_call 69; refine HN2.out.mono ?_; rintro o w1 ⟨rfl, hb1⟩; have hg1 := hGx.below hb1; have hH1 := Lib.hid (hHx.below hb1); have ks1 := hg1.s; have kst1 := hg1.st; have kr1 := hg1.r; have ksm1 := hg1.sum; rw [hr] at kr1; rw [hsum] at ksm1; replace hg1 := Lib.hid hg1))
          go_ret
          exact (HQ _ hb1).out
    · have kst : wr.cell? ⟨G, 0, none⟩ = some (.int .i64 7) := hGx.st
      by_cases hl : g.s.size < 4 * (1 - j0) + 4
      · have HN := Lib.hid (number_no G _ 0 4 wr hGx hp (by omega) (by show (g.s.extract (4 * (1 - j0)) g.s.size).size ≤ _; rw [ext_size' _ _ _ (Nat.le_refl _)]; omega) (Nat.zero_le _) (by show (g.s.extract (4 * (1 - j0)) g.s.size).size < _; rw [ext_size' _ _ _ (Nat.le_refl _)]; omega))
        rw [show ((4 : Nat) : Int) = 4 from rfl] at HN
        have HQ : ∀ w', Below wr.heap.size wr w' → Hid (TailPost G g c.out w j0 (.returned (.int .i64 0)) w') := fun w' hb => Lib.hid ⟨1, ⟨hGx.below hb, hFx.below hb, hjj, by omega, hd, hall⟩, .inl ⟨rfl, .inr hl⟩⟩
        clear hall hd hl hGx hFx hHx
        go_wp2_with (go_at_call 69; refine HN.out.mono ?_; rintro o w1 ⟨rfl, hb1⟩)
        go_ret
        exact (HQ _ hb1).out
      · have HN := Lib.hid (number_yes G _ 0 4 wr hGx hp (by omega) (by omega) (by show (g.s.extract (4 * (1 - j0)) g.s.size).size ≤ _; rw [ext_size' _ _ _ (Nat.le_refl _)]; omega) (by show 0 + 4 ≤ (g.s.extract (4 * (1 - j0)) g.s.size).size; rw [ext_size' _ _ _ (Nat.le_refl _)]; omega))
        have HN2 : Hid (Calls Try.prog 69 #[.pointer (some ⟨G, 0, none⟩), .int .i64 4] wr fun o w' => o = .returned (.tuple #[.int .i64 (Gz.nAt 4 g.s.data.toList (4 * (1 - j0)) : Int), .bool true]) ∧ Below wr.heap.size wr w') := by
          have e : Gz.nAt 4 (g.s.extract (4 * (1 - j0)) g.s.size).data.toList 0 = Gz.nAt 4 g.s.data.toList (4 * (1 - j0)) := by unfold Gz.nAt; rw [drop_list, List.drop_zero]
          rw [← e]
          exact HN
        have hsz4 : 4 ≤ (g.s.extract (4 * (1 - j0)) g.s.size).size := by rw [ext_size' _ _ _ (Nat.le_refl _)]; omega
        have hext := ext_ext g.s (4 * (1 - j0)) 4
        have hjn : 4 * (1 - j0) + 4 = 4 * (1 + 1 - j0) := by omega
        rw [hjn] at hext
        by_cases hne : Gz.nAt 4 g.s.data.toList (4 * (1 - j0)) = wantN c.out 1
        · have HQ : ∀ w', GdAt w' G { g with st := ((6 + 1 + 1 : Nat) : Int), s := g.s.extract (4 * (1 + 1 - j0)) g.s.size } → Fr (· = G) wr w' → Hid (Tailed G g c.out w j0 (1 + 1) w') := fun w' h1 h2 => Lib.hid ⟨h1, hFx.trans h2, by omega, by omega, by omega, fun i h3 h4 => by
            by_cases hij : i = 1
            · subst hij; exact hne
            · exact hall i h3 (by omega)⟩
          rw [hne] at HN2
          have hw : wantN c.out 1 = c.out.length % 4294967296 := rfl
          rw [hw] at HN2
          have hlw := low32 c.out.length (by omega)
          generalize hln : c.out.length = ln at *
          clear hall hd hl HN hne hw
          generalize g.s.extract (4 * (1 - j0)) g.s.size = S1 at *
          generalize g.s.extract (4 * (1 + 1 - j0)) g.s.size = S2 at *
          have e64 : IntKind.i64.wrap ((ln : Int) % 4294967296) = (ln : Int) % 4294967296 := IntWalk.i64_in _ (by omega)
          go_wp2_with (first | (go_at_call 69; refine HN2.out.mono ?_; rintro o w1 ⟨rfl, hb1⟩; have hg1 := hGx.below hb1; have hH1 := Lib.hid (hHx.below hb1); have ks1 := hg1.s; have kst1 := hg1.st; have kr1 := hg1.r; have ksm1 := hg1.sum; have fs1 := hg1.frozen 1; have fst1 := hg1.frozen 0; rw [hr] at kr1; replace hg1 := Lib.hid hg1) | (go_at_call 37; refine (hist_told R 0 most F c _ hH1.out.hist).mono ?_; rintro o w2 ⟨rfl, rfl⟩))
          go_roundw
          case rel =>
            refine ⟨1 + 1, (HQ _ ?_ ?_).out⟩
            · rw [← hext]
              exact GdAt.set (g := { g with st := ((6 + 1 : Nat) : Int), s := S1.extract 4 S1.size }) (hg1.out.set 1 _ rfl) 0 _ rfl
            · exact ((Fr.of_below hb1 : Fr (· = G) wr w1).setCell (p := ⟨G, 1, none⟩) (Or.inl rfl) _).setCell (p := ⟨G, 0, none⟩) (Or.inl rfl) _
          case measure =>
            have hn : ((w1.setCell ⟨G, 1, none⟩ (.string S2)).setCell ⟨G, 0, none⟩ (.int .i64 8)).cell? ⟨G, 0, none⟩ = some (.int .i64 8) := GdAt.st (g := { g with st := 8, s := S2 }) (GdAt.set (g := { g with st := ((6 + 1 : Nat) : Int), s := S2 }) (hg1.out.set 1 _ rfl) 0 _ rfl)
            rw [hn, kst]
            simp [intOf]
        · have HQ : ∀ w', Below wr.heap.size wr w' → Hid (TailPost G g c.out w j0 (.returned (.int .i64 101)) w') := fun w' hb => Lib.hid ⟨1, ⟨hGx.below hb, hFx.below hb, hjj, by omega, hd, hall⟩, .inr ⟨rfl, by omega, by omega, hne⟩⟩
          have hw : wantN c.out 1 = c.out.length % 4294967296 := rfl
          rw [hw] at hne
          have hlw := low32 c.out.length (by omega)
          generalize hln : c.out.length = ln at *
          generalize Gz.nAt 4 g.s.data.toList (4 * (1 - j0)) = n at *
          have q1 : ((n : Int) != (ln : Int) % 4294967296) = true := by simp; omega
          have e64 : IntKind.i64.wrap ((ln : Int) % 4294967296) = (ln : Int) % 4294967296 := IntWalk.i64_in _ (by omega)
          clear hall hd hl HN hne hw
          generalize g.s.extract (4 * (1 - j0)) g.s.size = S1 at *
          go_wp2_with (first | (go_at_call 69; refine HN2.out.mono ?_; rintro o w1 ⟨rfl, hb1⟩; have hg1 := hGx.below hb1; have hH1 := Lib.hid (hHx.below hb1); have ks1 := hg1.s; have kst1 := hg1.st; have kr1 := hg1.r; have ksm1 := hg1.sum; rw [hr] at kr1; replace hg1 := Lib.hid hg1) | (go_at_call 37; refine (hist_told R 0 most F c _ hH1.out.hist).mono ?_; rintro o w2 ⟨rfl, rfl⟩))
          go_ret
          exact (HQ _ hb1).out
    · have kst : wr.cell? ⟨G, 0, none⟩ = some (.int .i64 8) := hGx.st
      have HQ : Hid (TailPost G g c.out w j0 (.returned (.int .i64 0)) wr) := Lib.hid ⟨2, ⟨hGx, hFx, hjj, by omega, hd, hall⟩, .inl ⟨rfl, .inl rfl⟩⟩
      clear hall hd hGx hFx hHx
      go_wp2_with fail
      go_ret
      exact HQ.out
end Go.Proofs.Ytcjcmlnbchmnnaa
