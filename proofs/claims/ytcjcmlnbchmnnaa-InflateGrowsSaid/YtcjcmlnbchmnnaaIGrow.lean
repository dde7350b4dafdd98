/- Two inflate Readers side by side, each in memory of its own: what the one's Write leaves of the other. -/
import Derived.Test.YtcjcmlnbchmnnaaIClone
namespace Go.Proofs.Ytcjcmlnbchmnnaa
open Go.RowKit

/-- a Reader's own blocks -/
def Blks (R : Nat) (bk : Option Nat) (k : Nat) : Prop := k = R ∨ bk = some k
/-- two Readers in memory of their own, all of it from block L on -/
structure Apart (L R : Nat) (bk : Option Nat) (R2 : Nat) (bk2 : Option Nat) : Prop where
  own : ∀ k, Blks R bk k → L ≤ k
  own2 : ∀ k, Blks R2 bk2 k → L ≤ k
  far : ∀ k, Blks R2 bk2 k → ¬ Blks R bk k
theorem HistB.bound {w : World} {R most : Nat} {bk : Option Nat} {full : List UInt8} {c : Im.St} (h : HistB w R bk most full c) : ∀ k, Blks R bk k → k < w.heap.size := by
  rintro k (rfl | hk)
  · exact h.lt
  · obtain ⟨cs, hc⟩ := h.rows.2 k hk
    exact lt_of_block hc
theorem grow_clone (L R : Nat) (bk : Option Nat) (most : Nat) (full : List UInt8) (c : Im.St) (w : World) (h : HistB w R bk most full c) (hL : ∀ k, Blks R bk k → L ≤ k) (hLw : L ≤ w.heap.size) :
    Calls Try.prog 35 #[.pointer (some ⟨R, 0, none⟩)] w fun o w1 => ∃ R2 bk2, o = .returned (.pointer (some ⟨R2, 0, none⟩)) ∧ HistB w1 R bk most full c ∧ HistB w1 R2 bk2 most full c ∧ Apart L R bk R2 bk2 ∧ Below w.heap.size w w1 := by
  refine (clone_go R bk most full c w h).mono ?_
  rintro o w1 ⟨R2, bk2, rfl, h2, hb, h3, h4⟩
  have hge : ∀ k, Blks R2 bk2 k → w.heap.size ≤ k := by
    rintro k (rfl | hk)
    · exact h3
    · exact h4 k hk
  exact ⟨R2, bk2, rfl, h.below hb, h2, ⟨hL, fun k hk => Nat.le_trans hLw (hge k hk), fun k hk q => by have := hge k hk; have := h.bound k q; omega⟩, hb⟩
theorem HistB.other {w w' : World} {L R most R2 most2 : Nat} {bk bk2 : Option Nat} {full F2 : List UInt8} {c c2 : Im.St} (h : HistB w R bk most full c) (h2 : HistB w R2 bk2 most2 F2 c2) (ha : Apart L R bk R2 bk2) (hf : Fr (fun k => k = R ∨ bk = Option.some k) w w') : HistB w' R2 bk2 most2 F2 c2 :=
  h2.frS hf (ha.far R2 (Or.inl rfl)) (fun k hk => ha.far k (Or.inr hk)) h.some
theorem Apart.symm {L R R2 : Nat} {bk bk2 : Option Nat} (h : Apart L R bk R2 bk2) : Apart L R2 bk2 R bk := ⟨h.own2, h.own, fun k hk q => h.far k q hk⟩
theorem grow_ok (L R : Nat) (bk : Option Nat) (R2 : Nat) (bk2 : Option Nat) (most : Nat) (full F2 : List UInt8) (c c2 c' : Im.St) (t : ByteArray) (w : World) (h : HistB w R bk most full c) (h2 : HistB w R2 bk2 most F2 c2) (ha : Apart L R bk R2 bk2) (hLw : L ≤ w.heap.size)
    (hs : full.length + t.size ≤ 281474976710656) (hrun : Im.Run (full ++ t.data.toList) most Im.start c' 0) :
    Calls Try.prog 29 #[.pointer (some ⟨R, 0, none⟩), .string t] w fun o w' => o = .returned (.tuple #[.string ⟨(c'.out.drop c.out.length).toArray⟩, .int .i64 0]) ∧ (∃ bk', HistB w' R bk' most (full ++ t.data.toList) c' ∧ Apart L R bk' R2 bk2) ∧ HistB w' R2 bk2 most F2 c2 ∧ Below L w w' := by
  refine (histB_write R bk most full c t w h hs).mono ?_
  rintro o w' ⟨c3, e3, k1, k2, k3⟩
  obtain ⟨rfl, rfl⟩ := k1.det hrun
  rcases k3 with ⟨k4, _⟩ | ⟨_, rfl, bk', k5, k6⟩
  · exact absurd rfl k4
  · refine ⟨rfl, ⟨bk', k5, ⟨?_, ha.own2, ?_⟩⟩, h.other h2 ha k2, k2.to_below hLw ha.own⟩
    · rintro k (rfl | hk)
      · exact ha.own k (Or.inl rfl)
      · exact Nat.le_trans hLw (k6 k hk)
    · rintro k hk (rfl | q)
      · exact ha.far k hk (Or.inl rfl)
      · have := k6 k q
        have := h2.bound k hk
        omega
theorem grow_bad (L R : Nat) (bk : Option Nat) (R2 : Nat) (bk2 : Option Nat) (most : Nat) (full F2 : List UInt8) (c c2 c' : Im.St) (e : Int) (t : ByteArray) (w : World) (h : HistB w R bk most full c) (h2 : HistB w R2 bk2 most F2 c2) (ha : Apart L R bk R2 bk2) (hLw : L ≤ w.heap.size)
    (hs : full.length + t.size ≤ 281474976710656) (hrun : Im.Run (full ++ t.data.toList) most Im.start c' e) (he : e ≠ 0) :
    Calls Try.prog 29 #[.pointer (some ⟨R, 0, none⟩), .string t] w fun o w' => o = .returned (.tuple #[.string ⟨#[]⟩, .int .i64 e]) ∧ Broken w' R e ∧ HistB w' R2 bk2 most F2 c2 ∧ Below L w w' := by
  refine (histB_write R bk most full c t w h hs).mono ?_
  rintro o w' ⟨c3, e3, k1, k2, k3⟩
  obtain ⟨rfl, rfl⟩ := k1.det hrun
  rcases k3 with ⟨_, rfl, k5⟩ | ⟨k4, _⟩
  · exact ⟨rfl, k5, h.other h2 ha k2, k2.to_below hLw ha.own⟩
  · exact absurd k4 he
/-- a Write's answer, whatever it is -/
def SomeAns (o : Ending) : Prop := ∃ v g, o = .returned (.tuple #[.string v, .int .i64 g])
/-- the clone's Write -/
theorem grow_left (L R : Nat) (bk : Option Nat) (R2 : Nat) (bk2 : Option Nat) (most : Nat) (F2 : List UInt8) (c2 : Im.St) (t : ByteArray) (w : World) (h2 : HistB w R2 bk2 most F2 c2) (ha : Apart L R bk R2 bk2) (hLw : L ≤ w.heap.size) (hs : F2.length + t.size ≤ 281474976710656) :
    Calls Try.prog 29 #[.pointer (some ⟨R2, 0, none⟩), .string t] w fun o w' => SomeAns o ∧ (∀ full c, HistB w R bk most full c → HistB w' R bk most full c) ∧ (∀ e, Broken w R e → Broken w' R e) ∧ Below L w w' := by
  refine (histB_write R2 bk2 most F2 c2 t w h2 hs).mono ?_
  rintro o w' ⟨c3, e3, k1, k2, k3⟩
  refine ⟨?_, fun full c h => h2.other h ha.symm k2, fun e ⟨r, hr, he⟩ => ⟨r, hr.fr k2 (fun q => ha.far R q (Or.inl rfl)), he⟩, k2.to_below hLw ha.own2⟩
  rcases k3 with ⟨_, rfl, _⟩ | ⟨_, rfl, _⟩
  · exact ⟨_, _, rfl⟩
  · exact ⟨_, _, rfl⟩
/-! the same memory -/
theorem TableAt.heap {w w' : World} {T : Nat} {ns : List Nat} (h : TableAt w T ns) (e : w'.heap = w.heap) : TableAt w' T ns := by
  obtain ⟨M, n, hcT, D, ⟨es, clock, q1, q2⟩, q3⟩ := h
  exact ⟨M, n, by rw [e]; exact hcT, D, ⟨es, clock, by rw [e]; exact q1, q2⟩, q3⟩
theorem HistB.heap {w w' : World} {R most : Nat} {bk : Option Nat} {full : List UInt8} {c : Im.St} (h : HistB w R bk most full c) (e : w'.heap = w.heap) : HistB w' R bk most full c := by
  obtain ⟨r, a, k, hr, h1, h2, h3, h4, h5, h6⟩ := h
  have htab : ∀ v ns, TabAt w v ns → TabAt w' v ns := fun v ns ⟨T, q1, q2, q3⟩ => ⟨T, q1, q2.heap e, q3⟩
  exact ⟨r, a, k, ⟨{ at_ := by have := hr.st.at_; unfold RdAt at this ⊢; rw [e]; exact this, bit := hr.st.bit, state := hr.st.state, last := hr.st.last, left := hr.st.left, told := hr.st.told, most_ := hr.st.most_, e := hr.st.e, out := ⟨[], by simp, by rw [hr.out]; exact OutAt.nil _ _⟩, back := ⟨hr.st.back.1.kept fun g _ => by rw [e], fun k hk => by rw [e]; exact hr.st.back.2 k hk⟩, tabs := fun q => ⟨htab _ _ (hr.st.tabs q).1, htab _ _ (hr.st.tabs q).2⟩, base := by rw [e]; exact Nat.le_refl _, pos_le := hr.st.pos_le, size_le := hr.st.size_le, out_le := hr.st.out_le, most_le := hr.st.most_le, left_le := hr.st.left_le, state_le := hr.st.state_le, one := hr.st.one }, hr.out⟩, h1, h2, h3, h4, h5, h6⟩
end Go.Proofs.Ytcjcmlnbchmnnaa
