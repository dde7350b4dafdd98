/- A Reader and all bytes that it was written so far: New, Write, Done, Rest, Told, One by runs of the model. -/
import Derived.Test.YtcjcmlnbchmnnaaIWrite
namespace Go.Proofs.Ytcjcmlnbchmnnaa
open Go.RowKit

/-- the Reader in block R has come to the model's state c by these bytes, without anything wrong; its own memory lies from block L on -/
def Hist (w : World) (R L : Nat) (most : Nat) (full : List UInt8) (c : Im.St) : Prop :=
  ∃ r a k, Rests w R r most a ∧ r.s.data.toList = full.drop k ∧ k ≤ full.length ∧ c = a.up k ∧ a.pos < 8 ∧ Im.Run full most Im.start c 0 ∧ L ≤ R ∧ ∀ g, r.back.ownBlock = some g → L ≤ g
/-- .. something was wrong -/
def Broken (w : World) (R : Nat) (e : Int) : Prop := ∃ r, RdAt w R r ∧ r.e = e
theorem rests_new (w : World) (most : Nat) (hm : most ≤ 140737488355328) : Rests (w.alloc (.cells (Rd.new (most : Int)).cells 69)) w.heap.size (Rd.new (most : Int)) most Im.start :=
  ⟨{ at_ := heap_alloc_new w _, bit := rfl, state := rfl, last := rfl, left := rfl, told := rfl, most_ := rfl, e := rfl, out := ⟨[], rfl, OutAt.nil _ _⟩, back := ⟨OutAt.nil _ _, fun k hk => (by cases hk)⟩, tabs := fun e => (by cases e), base := Nat.le_refl _, pos_le := Nat.zero_le _, size_le := Nat.zero_le _, out_le := Nat.zero_le _, most_le := hm, left_le := Nat.zero_le _, state_le := Nat.zero_le _, one := ⟨rfl, rfl⟩ }, rfl⟩
theorem run_nil (most : Nat) : Im.Run [] most Im.start Im.start 0 := .stop (by simp [Im.start]) rfl
theorem hist_new (most : Nat) (w : World) (hm : most ≤ 140737488355328) :
    Calls Try.prog 28 #[.int .i64 (most : Int)] w fun o w' => o = .returned (.tuple #[.pointer (some ⟨w.heap.size, 0, none⟩), .int .i64 0]) ∧ Hist w' w.heap.size w.heap.size most [] Im.start ∧ Below w.heap.size w w' := by
  refine (new_yes (most : Int) w (by omega)).mono ?_
  rintro o w' ⟨rfl, rfl⟩
  exact ⟨rfl, ⟨_, _, 0, rests_new w most hm, rfl, Nat.le_refl _, rfl, by simp [Im.start], run_nil most, Nat.le_refl _, fun g hg => by cases hg⟩, (Below.refl _ w).alloc (Nat.le_refl _) _⟩
/-- what Write comes to -/
def HistPost (R L most : Nat) (full : List UInt8) (c : Im.St) (w : World) (o : Ending) (w' : World) : Prop :=
  ∃ c' e, Im.Run full most Im.start c' e ∧ Below L w w' ∧
    ((e ≠ 0 ∧ o = .returned (.tuple #[.string ⟨#[]⟩, .int .i64 e]) ∧ Broken w' R e) ∨
     (e = 0 ∧ o = .returned (.tuple #[.string ⟨(c'.out.drop c.out.length).toArray⟩, .int .i64 0]) ∧ Hist w' R L most full c'))
theorem hist_write (R L most : Nat) (full : List UInt8) (c : Im.St) (t : ByteArray) (w : World) (h : Hist w R L most full c) (hL : L ≤ w.heap.size) (hs : full.length + t.size ≤ 281474976710656) :
    Calls Try.prog 29 #[.pointer (some ⟨R, 0, none⟩), .string t] w (HistPost R L most (full ++ t.data.toList) c w) := by
  obtain ⟨r, a, k, hr, hrs, hk, hc, hp8, hrun, hLR, hLb⟩ := h
  have hsz : r.s.size = full.length - k := by rw [← blen, hrs, List.length_drop]
  refine (write_model R r most a t w hr (by omega)).mono ?_
  rintro o w' ⟨b, e, hb, hw⟩
  rw [hrs] at hb hw
  have hn := Im.Run.next hrun hc hk hb
  have hwent := hb.went (by rw [List.length_append, List.length_drop]; have := hr.st.pos_le; omega) hr.st.state_le
  refine ⟨b.up k, e, hn, ?_⟩
  rcases hw with ⟨he, ho, ⟨r', h1, h2⟩, hf⟩ | ⟨he, ho, ⟨r', h1, h2, h3⟩, hf⟩
  · exact ⟨hf.to_below hL fun g hg => by subst hg; exact hLR, .inl ⟨he, ho, r', h1, h2⟩⟩
  · have hbl : Below L w w' := hf.to_below hL fun g hg => by
      rcases hg with rfl | hg
      · exact hLR
      · exact hLb g hg
    refine ⟨hbl, .inr ⟨he, ?_, r', _, k + b.pos / 8, h1, ?_, ?_, ?_, Nat.mod_lt _ (by omega), by rw [← he]; exact hn, hLR, fun g hg => Nat.le_trans hL (h3 g hg)⟩⟩
    · rw [ho, hc]; rfl
    · rw [h2, ← List.drop_drop, List.drop_append_of_le_length hk]
    · have := hwent.1; rw [List.length_append, List.length_drop] at this; rw [List.length_append]; omega
    · unfold Im.St.up
      simp only
      congr 1
      omega
theorem hist_done (R L most : Nat) (full : List UInt8) (c : Im.St) (w : World) (h : Hist w R L most full c) :
    Calls Try.prog 30 #[.pointer (some ⟨R, 0, none⟩)] w fun o w' => o = .returned (.bool (decide (c.state = 3))) ∧ w = w' := by
  obtain ⟨r, a, k, hr, hrs, hk, hc, hp8, hrun, hLR, hLb⟩ := h
  refine (done_any R r w hr.st.at_).mono ?_
  rintro o w' ⟨rfl, rfl⟩
  have e1 := hr.st.e
  have e2 := hr.st.state
  have e3 : c.state = a.state := by rw [hc]; rfl
  have e4 : decide (r.state = 3 ∧ r.e = 0) = decide (c.state = 3) := by rw [e1, e2, e3, decide_eq_decide]; omega
  rw [e4]
  exact ⟨rfl, rfl⟩
theorem hist_rest (R L most : Nat) (full : List UInt8) (c : Im.St) (w : World) (h : Hist w R L most full c) :
    Calls Try.prog 31 #[.pointer (some ⟨R, 0, none⟩)] w fun o w' => o = .returned (.string ⟨(if c.state = 3 then full.drop (c.pos / 8) else []).toArray⟩) ∧ w = w' := by
  obtain ⟨r, a, k, hr, hrs, hk, hc, hp8, hrun, hLR, hLb⟩ := h
  refine (rest_any R r w hr.st.at_).mono ?_
  rintro o w' ⟨rfl, rfl⟩
  have e1 := hr.st.e
  have e2 := hr.st.state
  have e3 : c.state = a.state := by rw [hc]; rfl
  have e5 : c.pos = 8 * k + a.pos := by rw [hc]; rfl
  by_cases h3 : c.state = 3
  · have hev := hrun.even Im.start_even (Nat.zero_le _) (Nat.zero_le _) h3
    have hkk : c.pos / 8 = k := by omega
    rw [if_pos h3, if_pos ⟨by rw [e2]; omega, e1⟩, hkk, ← hrs]
    exact ⟨rfl, rfl⟩
  · rw [if_neg h3, if_neg (fun q => h3 (by have := q.1; rw [e2] at this; omega))]
    exact ⟨rfl, rfl⟩
theorem hist_told (R L most : Nat) (full : List UInt8) (c : Im.St) (w : World) (h : Hist w R L most full c) :
    Calls Try.prog 37 #[.pointer (some ⟨R, 0, none⟩)] w fun o w' => o = .returned (.int .i64 (c.out.length : Int)) ∧ w = w' := by
  obtain ⟨r, a, k, hr, hrs, hk, hc, hp8, hrun, hLR, hLb⟩ := h
  refine (told_any R r w hr.st.at_).mono ?_
  rintro o w' ⟨rfl, rfl⟩
  rw [hr.st.told, hc]
  exact ⟨rfl, rfl⟩
theorem broken_done (R : Nat) (e : Int) (w : World) (h : Broken w R e) (he : e ≠ 0) :
    Calls Try.prog 30 #[.pointer (some ⟨R, 0, none⟩)] w fun o w' => o = .returned (.bool false) ∧ w = w' := by
  obtain ⟨r, hr, rfl⟩ := h
  refine (done_any R r w hr).mono ?_
  rintro o w' ⟨rfl, rfl⟩
  rw [decide_eq_false fun q => he q.2]
  exact ⟨rfl, rfl⟩
theorem broken_rest (R : Nat) (e : Int) (w : World) (h : Broken w R e) (he : e ≠ 0) :
    Calls Try.prog 31 #[.pointer (some ⟨R, 0, none⟩)] w fun o w' => o = .returned (.string ⟨#[]⟩) ∧ w = w' := by
  obtain ⟨r, hr, rfl⟩ := h
  refine (rest_any R r w hr).mono ?_
  rintro o w' ⟨rfl, rfl⟩
  rw [if_neg fun q => he q.2]
  exact ⟨rfl, rfl⟩
theorem broken_write (R : Nat) (e : Int) (t : ByteArray) (w : World) (h : Broken w R e) (he : e ≠ 0) :
    Calls Try.prog 29 #[.pointer (some ⟨R, 0, none⟩), .string t] w fun o w' => o = .returned (.tuple #[.string ⟨#[]⟩, .int .i64 e]) ∧ Broken w' R e ∧ Below w.heap.size w w' := by
  obtain ⟨r, hr, rfl⟩ := h
  refine (write_bad R r t w hr he).mono ?_
  rintro o w' ⟨rfl, hb⟩
  exact ⟨rfl, ⟨r, hr.below hb, rfl⟩, hb⟩
/-- what One tells, by a run -/
def oneO (c : Im.St) (e : Int) : List UInt8 := if e = 0 ∧ c.state = 3 then c.out else []
def oneN (c : Im.St) (e : Int) : Nat := if e = 0 ∧ c.state = 3 then c.pos / 8 else 0
def oneE (c : Im.St) (e : Int) : Int := if e ≠ 0 then e else if c.state = 3 then 0 else 94
theorem one_neg (most : Int) (s : ByteArray) (w : World) (h : most < 0) :
    Calls Try.prog 27 #[.string s, .int .i64 most] w fun o w' => o = .returned (.tuple #[.string ⟨#[]⟩, .int .i64 0, .int .i64 1]) ∧ w = w' := by
  have HN := Lib.hid (new_no most w h)
  go_enter Try.func27, Try.ntmps27
  go_wp2_with (go_at_call 28; refine HN.out.mono ?_; rintro e w' ⟨rfl, rfl⟩)
  go_ret3
  exact ⟨rfl, rfl⟩
theorem hist_write_bad (R L most : Nat) (full : List UInt8) (c c' : Im.St) (e : Int) (t : ByteArray) (w : World) (h : Hist w R L most full c) (hL : L ≤ w.heap.size) (hs : full.length + t.size ≤ 281474976710656) (hrun : Im.Run (full ++ t.data.toList) most Im.start c' e) (he : e ≠ 0) :
    Calls Try.prog 29 #[.pointer (some ⟨R, 0, none⟩), .string t] w fun o w' => o = .returned (.tuple #[.string ⟨#[]⟩, .int .i64 e]) ∧ Broken w' R e ∧ Below L w w' := by
  refine (hist_write R L most full c t w h hL hs).mono ?_
  rintro o w' ⟨c2, e2, h1, h2, h3⟩
  obtain ⟨rfl, rfl⟩ := h1.det hrun
  rcases h3 with ⟨_, h4, h5⟩ | ⟨h4, _⟩
  · exact ⟨h4, h5, h2⟩
  · exact absurd h4 he
theorem hist_write_ok (R L most : Nat) (full : List UInt8) (c c' : Im.St) (t : ByteArray) (w : World) (h : Hist w R L most full c) (hL : L ≤ w.heap.size) (hs : full.length + t.size ≤ 281474976710656) (hrun : Im.Run (full ++ t.data.toList) most Im.start c' 0) :
    Calls Try.prog 29 #[.pointer (some ⟨R, 0, none⟩), .string t] w fun o w' => o = .returned (.tuple #[.string ⟨(c'.out.drop c.out.length).toArray⟩, .int .i64 0]) ∧ Hist w' R L most (full ++ t.data.toList) c' ∧ Below L w w' := by
  refine (hist_write R L most full c t w h hL hs).mono ?_
  rintro o w' ⟨c2, e2, h1, h2, h3⟩
  obtain ⟨rfl, rfl⟩ := h1.det hrun
  rcases h3 with ⟨h4, _⟩ | ⟨_, h4, h5⟩
  · exact absurd rfl h4
  · exact ⟨h4, h5, h2⟩
def OneIn (c : Im.St) (e : Int) (w : World) (o : Ending) (w' : World) : Prop := o = .returned (.tuple #[.string ⟨(oneO c e).toArray⟩, .int .i64 (oneN c e : Int), .int .i64 (oneE c e)]) ∧ Below w.heap.size w w'
set_option maxHeartbeats 1000000 in
theorem one_run (most : Nat) (s : ByteArray) (w : World) (c : Im.St) (e : Int) (hm : most ≤ 140737488355328) (hs : s.size ≤ 281474976710656) (hrun : Im.Run s.data.toList most Im.start c e) :
    Calls Try.prog 27 #[.string s, .int .i64 (most : Int)] w (OneIn c e w) := by
  have HN := Lib.hid (hist_new most w hm)
  by_cases he : e = 0
  · subst he
    have HW := fun w1 h1 hL => Lib.hid (hist_write_ok w.heap.size w.heap.size most [] Im.start c s w1 h1 hL (by rw [List.length_nil]; omega) hrun)
    have HD := fun w1 h1 => Lib.hid (hist_done w.heap.size w.heap.size most ([] ++ s.data.toList) c w1 h1)
    by_cases h3 : c.state = 3
    · have HR := fun w1 h1 => Lib.hid (hist_rest w.heap.size w.heap.size most ([] ++ s.data.toList) c w1 h1)
      simp only [decide_eq_true h3] at HD
      simp only [if_pos h3, List.nil_append] at HR
      have hwent := hrun.went (Nat.zero_le _) (Nat.zero_le _)
      have hpos := hwent.1
      rw [blen] at hpos
      have e1 : oneO c 0 = c.out.drop Im.start.out.length := by unfold oneO; rw [if_pos ⟨rfl, h3⟩]; rfl
      have e2 : oneN c 0 = c.pos / 8 := by unfold oneN; rw [if_pos ⟨rfl, h3⟩]
      have e3 : oneE c 0 = 0 := by unfold oneE; rw [if_neg (by simp), if_pos h3]
      have hrs : (ByteArray.mk (s.data.toList.drop (c.pos / 8)).toArray).size = s.size - c.pos / 8 := by rw [← blen]; simp
      have ew : IntKind.i64.wrap ((s.size : Int) - ((s.size - c.pos / 8 : Nat) : Int)) = ((c.pos / 8 : Nat) : Int) := by rw [IntWalk.i64_in _ (by omega)]; omega
      have HP : Hid (∀ w', Below w.heap.size w w' → OneIn c 0 w (.returned (.tuple #[.string ⟨(c.out.drop Im.start.out.length).toArray⟩, .int .i64 ((c.pos / 8 : Nat) : Int), .int .i64 0])) w') := fun w' hb => by unfold OneIn; rw [e1, e2, e3]; exact ⟨rfl, hb⟩
      clear e1 e2 e3 hwent hpos h3
      generalize c.pos / 8 = pp at *
      generalize s.data.toList.drop pp = dd at *
      generalize c.out.drop Im.start.out.length = oo at *
      generalize s.size - pp = rr at *
      go_enter Try.func27, Try.ntmps27
      go_wp2_with (first | (go_at_call 28; refine HN.out.mono ?_; rintro q w1 ⟨rfl, h1, hb1⟩; clear HN) | (go_at_call 29; refine (HW _ h1 hb1.size).out.mono ?_; rintro q w2 ⟨rfl, h2, hb2⟩; clear HW) | (go_at_call 30; refine (HD _ h2).out.mono ?_; rintro q w3 ⟨rfl, rfl⟩) | (go_at_call 31; refine (HR _ h2).out.mono ?_; rintro q w3 ⟨rfl, rfl⟩))
      go_ret3
      exact HP.out _ (hb1.trans hb2)
    · simp only [decide_eq_false h3] at HD
      have HP : Hid (∀ w', Below w.heap.size w w' → OneIn c 0 w (.returned (.tuple #[.string ⟨#[]⟩, .int .i64 0, .int .i64 94])) w') := fun w' hb => by
        have q : ¬ ((0 : Int) = 0 ∧ c.state = 3) := fun q => h3 q.2
        unfold OneIn oneO oneN oneE
        rw [if_neg q, if_neg q, if_neg (by simp), if_neg h3]; exact ⟨rfl, hb⟩
      clear h3
      generalize c.out.drop Im.start.out.length = oo at *
      go_enter Try.func27, Try.ntmps27
      go_wp2_with (first | (go_at_call 28; refine HN.out.mono ?_; rintro q w1 ⟨rfl, h1, hb1⟩; clear HN) | (go_at_call 29; refine (HW _ h1 hb1.size).out.mono ?_; rintro q w2 ⟨rfl, h2, hb2⟩; clear HW) | (go_at_call 30; refine (HD _ h2).out.mono ?_; rintro q w3 ⟨rfl, rfl⟩))
      go_ret3
      exact HP.out _ (hb1.trans hb2)
  · have HW := fun w1 h1 hL => Lib.hid (hist_write_bad w.heap.size w.heap.size most [] Im.start c e s w1 h1 hL (by rw [List.length_nil]; omega) hrun he)
    have q1 : (e != 0) = true := by simpa using he
    have HP : Hid (∀ w', Below w.heap.size w w' → OneIn c e w (.returned (.tuple #[.string ⟨#[]⟩, .int .i64 0, .int .i64 e])) w') := fun w' hb => by
      have q : ¬ (e = 0 ∧ c.state = 3) := fun q => he q.1
      unfold OneIn oneO oneN oneE
      rw [if_neg q, if_neg q, if_pos he]; exact ⟨rfl, hb⟩
    clear he hrun
    go_enter Try.func27, Try.ntmps27
    go_wp2_with (first | (go_at_call 28; refine HN.out.mono ?_; rintro q w1 ⟨rfl, h1, hb1⟩; clear HN) | (go_at_call 29; refine (HW _ h1 hb1.size).out.mono ?_; rintro q w2 ⟨rfl, h2, hb2⟩; clear HW))
    go_ret3
    exact HP.out _ (hb1.trans hb2)
end Go.Proofs.Ytcjcmlnbchmnnaa
