/- A Reader and all bytes that it was written so far, and which blocks are its own: what other calls leave of it, and what it leaves of others. -/
import Derived.Test.YtcjcmlnbchmnnaaIHist
import Derived.Test.YtcjcmlnbchmnnaaGd
namespace Go.Proofs.Ytcjcmlnbchmnnaa
open Go.RowKit

theorem Im.Run.more {full t : List UInt8} {most : Nat} {b c : Im.St} {e : Int} (h : Im.Run full most Im.start b 0) (h2 : Im.Run (full ++ t) most Im.start c e) : ∃ o, c.out = b.out ++ o := by
  have hb := h.went (Nat.zero_le _) (Nat.zero_le _)
  obtain ⟨c', e', h3⟩ := Im.run_exists (full ++ t) most b (by rw [List.length_append]; have := hb.1; omega) hb.2.2.2.2.2
  obtain ⟨rfl, rfl⟩ := (h.then t rfl h3).det h2
  exact (h3.went (by rw [List.length_append]; have := hb.1; omega) hb.2.2.2.2.2).2.2.1
/-- the Reader in block R has come to the model's state c by these bytes; its own memory beside R is the block bk -/
def HistB (w : World) (R : Nat) (bk : Option Nat) (most : Nat) (full : List UInt8) (c : Im.St) : Prop :=
  ∃ r a k, Rests w R r most a ∧ r.s.data.toList = full.drop k ∧ k ≤ full.length ∧ c = a.up k ∧ a.pos < 8 ∧ Im.Run full most Im.start c 0 ∧ r.back.ownBlock = bk
/-- a row that a call of a Reader's may change -/
def SomeRow (w : World) (k : Nat) : Prop := ∃ c T, w.heap[k]? = some (.cells c T (0, 0)) ∧ (T = 69 ∨ T = 5 ∨ T = 61)
theorem TableAt.frS {w w' : World} {S : Nat → Prop} {T : Nat} {ns : List Nat} (h : TableAt w T ns) (hf : Fr S w w') (hS : ∀ k, S k → k < w.heap.size → SomeRow w k) : TableAt w' T ns := by
  obtain ⟨M, n, hcT, D, ⟨es, clock, q1, q2⟩, q3⟩ := h
  refine ⟨M, n, ?_, D, ⟨es, clock, ?_, q2⟩, q3⟩
  · rw [hf.block T (lt_of_block hcT)]
    · exact hcT
    · intro hST
      obtain ⟨c, U, h1, h2⟩ := hS T hST (lt_of_block hcT)
      rw [hcT] at h1
      injection h1 with h1
      injection h1 with _ h1
      subst h1
      rcases h2 with q | q | q <;> exact absurd q (by decide)
  · rw [hf.block M (lt_of_block q1)]
    · exact q1
    · intro hST
      obtain ⟨c, U, h1, h2⟩ := hS M hST (lt_of_block q1)
      rw [q1] at h1
      cases h1
theorem Rests.frS {w w' : World} {S : Nat → Prop} {R most : Nat} {r : Rd} {a : Im.St} (h : Rests w R r most a) (hf : Fr S w w') (hR : ¬ S R) (hb : ∀ k, r.back.ownBlock = some k → ¬ S k) (hS : ∀ k, S k → k < w.heap.size → SomeRow w k) : Rests w' R r most a := by
  have hback : OutAt w' 0 r.back (lastN 32768 a.out) := by
    refine ⟨h.st.back.1.1, ?_⟩
    rcases h.st.back.1.2 with q | ⟨g, cap, cur, e1, e2, e3, e4⟩
    · exact .inl q
    · refine .inr ⟨g, cap, cur, e1, e2, ?_, e4⟩
      rw [hf.block g (lt_of_block e3) (hb g (by rw [e1]; rfl))]
      exact e3
  have htab : ∀ v ns, TabAt w v ns → TabAt w' v ns := fun v ns ⟨T, h1, h2, h3⟩ => ⟨T, h1, h2.frS hf hS, h3⟩
  exact ⟨{ at_ := h.st.at_.fr hf hR, bit := h.st.bit, state := h.st.state, last := h.st.last, left := h.st.left, told := h.st.told, most_ := h.st.most_, e := h.st.e, out := ⟨[], by simp, by rw [h.out]; exact OutAt.nil _ _⟩, back := ⟨hback, fun k hk => Nat.lt_of_lt_of_le (h.st.back.2 k hk) hf.size⟩, tabs := fun e => ⟨htab _ _ (h.st.tabs e).1, htab _ _ (h.st.tabs e).2⟩, base := Nat.le_refl _, pos_le := h.st.pos_le, size_le := h.st.size_le, out_le := h.st.out_le, most_le := h.st.most_le, left_le := h.st.left_le, state_le := h.st.state_le, one := h.st.one }, h.out⟩
theorem HistB.frS {w w' : World} {S : Nat → Prop} {R most : Nat} {bk : Option Nat} {full : List UInt8} {c : Im.St} (h : HistB w R bk most full c) (hf : Fr S w w') (hR : ¬ S R) (hb : ∀ k, bk = some k → ¬ S k) (hS : ∀ k, S k → k < w.heap.size → SomeRow w k) : HistB w' R bk most full c := by
  obtain ⟨r, a, k, hr, h1, h2, h3, h4, h5, rfl⟩ := h
  exact ⟨r, a, k, hr.frS hf hR hb hS, h1, h2, h3, h4, h5, rfl⟩
theorem HistB.hist {w : World} {R most : Nat} {bk : Option Nat} {full : List UInt8} {c : Im.St} (h : HistB w R bk most full c) : Hist w R 0 most full c := by
  obtain ⟨r, a, k, hr, h1, h2, h3, h4, h5, _⟩ := h
  exact ⟨r, a, k, hr, h1, h2, h3, h4, h5, Nat.zero_le _, fun _ _ => Nat.zero_le _⟩
theorem HistB.run {w : World} {R most : Nat} {bk : Option Nat} {full : List UInt8} {c : Im.St} (h : HistB w R bk most full c) : Im.Run full most Im.start c 0 := by obtain ⟨r, a, k, _, _, _, _, _, h5, _⟩ := h; exact h5
theorem HistB.lt {w : World} {R most : Nat} {bk : Option Nat} {full : List UInt8} {c : Im.St} (h : HistB w R bk most full c) : R < w.heap.size := by obtain ⟨r, a, k, hr, _⟩ := h; exact hr.st.at_.lt
theorem HistB.most_le {w : World} {R most : Nat} {bk : Option Nat} {full : List UInt8} {c : Im.St} (h : HistB w R bk most full c) : most ≤ 140737488355328 := by obtain ⟨r, a, k, hr, _⟩ := h; exact hr.st.most_le
/-- its own blocks are rows of a Reader and of bytes -/
theorem HistB.rows {w : World} {R most : Nat} {bk : Option Nat} {full : List UInt8} {c : Im.St} (h : HistB w R bk most full c) : (∃ cs, w.heap[R]? = some (.cells cs 69 (0, 0))) ∧ ∀ k, bk = some k → ByteRow w k := by
  obtain ⟨r, a, k, hr, _, _, _, _, _, rfl⟩ := h
  exact ⟨⟨_, hr.st.at_⟩, fun k hk => (hr.st.back.1.row k hk).2⟩
theorem HistB.some {w : World} {R most : Nat} {bk : Option Nat} {full : List UInt8} {c : Im.St} (h : HistB w R bk most full c) : ∀ k, k = R ∨ bk = some k → k < w.heap.size → SomeRow w k := by
  intro k hk _
  obtain ⟨⟨cs, h1⟩, h2⟩ := h.rows
  rcases hk with rfl | hk
  · exact ⟨cs, _, h1, .inl rfl⟩
  · obtain ⟨cs, h3⟩ := h2 k hk
    exact ⟨cs, _, h3, .inr (.inl rfl)⟩
/-- a gzip Reader's row is none of its own -/
theorem HistB.far {w : World} {R most G : Nat} {g : Gd} {bk : Option Nat} {full : List UInt8} {c : Im.St} (h : HistB w R bk most full c) (hG : GdAt w G g) : ¬ (G = R ∨ bk = Option.some G) := by
  obtain ⟨⟨cs, h1⟩, h2⟩ := h.rows
  unfold GdAt at hG
  rintro (rfl | hk)
  · rw [h1] at hG
    injection hG with hG
    injection hG with _ hG
    exact absurd hG (by decide)
  · obtain ⟨cs, h3⟩ := h2 G hk
    rw [h3] at hG
    injection hG with hG
    injection hG with _ hG
    exact absurd hG (by decide)
/-- the gzip Reader's cells alone have changed -/
theorem HistB.gz {w w' : World} {R most G : Nat} {g : Gd} {bk : Option Nat} {full : List UInt8} {c : Im.St} (h : HistB w R bk most full c) (hG : GdAt w G g) (hf : Fr (· = G) w w') : HistB w' R bk most full c := by
  have hfar := h.far hG
  refine h.frS hf (fun e => hfar (.inl e.symm)) (fun k hk e => hfar (.inr (by rw [← e]; exact hk))) (fun k hk _ => ?_)
  subst hk
  exact ⟨_, _, hG, .inr (.inr rfl)⟩
theorem HistB.below {w w' : World} {R most : Nat} {bk : Option Nat} {full : List UInt8} {c : Im.St} (h : HistB w R bk most full c) (hb : Below w.heap.size w w') : HistB w' R bk most full c :=
  h.frS (S := fun _ => False) (Fr.of_below hb) (fun q => q) (fun _ _ q => q) (fun _ q => q.elim)
theorem histB_new (most : Nat) (w : World) (hm : most ≤ 140737488355328) :
    Calls Try.prog 28 #[.int .i64 (most : Int)] w fun o w' => o = .returned (.tuple #[.pointer (some ⟨w.heap.size, 0, none⟩), .int .i64 0]) ∧ HistB w' w.heap.size none most [] Im.start ∧ Below w.heap.size w w' := by
  refine (new_yes (most : Int) w (by omega)).mono ?_
  rintro o w' ⟨rfl, rfl⟩
  exact ⟨rfl, ⟨_, _, 0, rests_new w most hm, rfl, Nat.le_refl _, rfl, by simp [Im.start], run_nil most, rfl⟩, (Below.refl _ w).alloc (Nat.le_refl _) _⟩
/-- what Write comes to -/
def HistBPost (R : Nat) (bk : Option Nat) (most : Nat) (full : List UInt8) (c : Im.St) (w : World) (o : Ending) (w' : World) : Prop :=
  ∃ c' e, Im.Run full most Im.start c' e ∧ Fr (fun k => k = R ∨ bk = some k) w w' ∧
    ((e ≠ 0 ∧ o = .returned (.tuple #[.string ⟨#[]⟩, .int .i64 e]) ∧ Broken w' R e) ∨
     (e = 0 ∧ o = .returned (.tuple #[.string ⟨(c'.out.drop c.out.length).toArray⟩, .int .i64 0]) ∧ ∃ bk', HistB w' R bk' most full c' ∧ ∀ k, bk' = some k → w.heap.size ≤ k))
theorem histB_write (R : Nat) (bk : Option Nat) (most : Nat) (full : List UInt8) (c : Im.St) (t : ByteArray) (w : World) (h : HistB w R bk most full c) (hs : full.length + t.size ≤ 281474976710656) :
    Calls Try.prog 29 #[.pointer (some ⟨R, 0, none⟩), .string t] w (HistBPost R bk most (full ++ t.data.toList) c w) := by
  obtain ⟨r, a, k, hr, hrs, hk, hc, hp8, hrun, rfl⟩ := h
  have hsz : r.s.size = full.length - k := by rw [← blen, hrs, List.length_drop]
  refine (write_model R r most a t w hr (by omega)).mono ?_
  rintro o w' ⟨b, e, hb, hw⟩
  rw [hrs] at hb hw
  have hn := Im.Run.next hrun hc hk hb
  have hwent := hb.went (by rw [List.length_append, List.length_drop]; have := hr.st.pos_le; omega) hr.st.state_le
  refine ⟨b.up k, e, hn, ?_⟩
  rcases hw with ⟨he, ho, ⟨r', h1, h2⟩, hf⟩ | ⟨he, ho, ⟨r', h1, h2, h3⟩, hf⟩
  · exact ⟨hf.mono fun _ _ q => .inl q, .inl ⟨he, ho, r', h1, h2⟩⟩
  · refine ⟨hf, .inr ⟨he, ?_, _, ⟨r', _, k + b.pos / 8, h1, ?_, ?_, ?_, Nat.mod_lt _ (by omega), by rw [← he]; exact hn, rfl⟩, h3⟩⟩
    · rw [ho, hc]; rfl
    · rw [h2, ← List.drop_drop, List.drop_append_of_le_length hk]
    · have := hwent.1; rw [List.length_append, List.length_drop] at this; rw [List.length_append]; omega
    · unfold Im.St.up
      simp only
      congr 1
      omega
end Go.Proofs.Ytcjcmlnbchmnnaa
