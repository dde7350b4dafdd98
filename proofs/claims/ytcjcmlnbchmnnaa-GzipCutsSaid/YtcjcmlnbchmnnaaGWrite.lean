/- (*gzip.Reader).goes where its head does not end, and where its tail is read; Write: their contracts. -/
import Derived.Test.YtcjcmlnbchmnnaaGGoes
namespace Go.Proofs.Ytcjcmlnbchmnnaa
open Go.RowKit

set_option maxRecDepth 100000 in
set_option maxHeartbeats 4000000 in
theorem goes_fail (G : Nat) (g : Gd) (k0 fl0 p0 : Nat) (w : World) (hG : GdAt w G g) (hst : g.st = k0) (hfl : g.fl = fl0) (hp : g.p = p0) (hps : p0 ≤ g.s.size) (hf : fl0 < 256) (hk : k0 ≤ 4) (hs : g.s.size ≤ 281474976710656) (hno : ∀ q, Gz.stg k0 fl0 g.s.data.toList p0 ≠ .ok q) :
    Calls Try.prog 40 #[.pointer (some ⟨G, 0, none⟩)] w fun o w' => ∃ e, o = .returned (.tuple #[.string ⟨#[]⟩, .int .i64 e]) ∧ HeadPost G g w k0 fl0 p0 (.returned (.tuple #[.bool false, .int .i64 e])) w' := by
  have HD := Lib.hid (head_go G g k0 fl0 p0 w hG hst hfl hp hps hf hk hs)
  have HQ : ∀ o w', HeadPost G g w k0 fl0 p0 o w' → ∃ e, o = .returned (.tuple #[.bool false, .int .i64 e]) := by
    intro o w' h
    unfold HeadPost at h
    cases hm : Gz.stg k0 fl0 g.s.data.toList p0 with
    | more => rw [hm] at h; exact ⟨0, h.1⟩
    | bad e => rw [hm] at h; exact ⟨e, h.1⟩
    | ok q => exact absurd hm (hno q)
  have c0 := hG.st
  have q5 : decide (g.st < 5) = true := decide_eq_true (by omega)
  have HF : ∀ e w', HeadPost G g w k0 fl0 p0 (.returned (.tuple #[.bool false, .int .i64 e])) w' → Hid (∃ e', (.returned (.tuple #[.string ⟨#[]⟩, .int .i64 e]) : Ending) = .returned (.tuple #[.string ⟨#[]⟩, .int .i64 e']) ∧ HeadPost G g w k0 fl0 p0 (.returned (.tuple #[.bool false, .int .i64 e'])) w') := fun e w' h => Lib.hid ⟨e, rfl, h⟩
  clear hG hst hfl hp hps hf hk hs hno
  go_enter Try.func40, Try.ntmps40
  go_wp2_with (go_at_call 51; refine HD.out.mono ?_; intro o w1 hp; obtain ⟨e, rfl⟩ := HQ _ _ hp; have hpp := HF e w1 hp; clear hp)
  go_ret2
  exact hpp.out
set_option maxRecDepth 100000 in
set_option maxHeartbeats 4000000 in
theorem goes_tail (G R : Nat) (g : Gd) (bk : Option Nat) (most : Nat) (F : List UInt8) (c : Im.St) (j0 : Nat) (w : World) (hG : GdAt w G g) (hst : g.st = ((6 + j0 : Nat) : Int)) (hj0 : j0 ≤ 2) (hp : g.p = 0) (hr : g.r = .pointer (some ⟨R, 0, none⟩)) (hsum : g.sum = (Cm.crc 0 c.out : Nat))
    (hs : g.s.size ≤ 281474976710656) (hH : HistB w R bk most F c) :
    Calls Try.prog 40 #[.pointer (some ⟨G, 0, none⟩)] w fun o w' => ∃ e, o = .returned (.tuple #[.string ⟨#[]⟩, .int .i64 e]) ∧ TailPost G g c.out w j0 (.returned (.int .i64 e)) w' := by
  have HT := Lib.hid (tail_go G R g bk most F c j0 w hG hst hj0 hp hr hsum hs hH)
  have HQ : ∀ o w', TailPost G g c.out w j0 o w' → ∃ e, o = .returned (.int .i64 e) := by
    rintro o w' ⟨j, _, ⟨h, _⟩ | ⟨h, _⟩⟩
    · exact ⟨0, h⟩
    · exact ⟨101, h⟩
  have c0 := hG.st
  have q5 : decide (g.st < 5) = false := decide_eq_false (by omega)
  have q6 : (g.st == 5) = false := by simp; omega
  have HF : ∀ e w', TailPost G g c.out w j0 (.returned (.int .i64 e)) w' → Hid (∃ e', (.returned (.tuple #[.string ⟨#[]⟩, .int .i64 e]) : Ending) = .returned (.tuple #[.string ⟨#[]⟩, .int .i64 e']) ∧ TailPost G g c.out w j0 (.returned (.int .i64 e')) w') := fun e w' h => Lib.hid ⟨e, rfl, h⟩
  clear hG hst hp hr hsum hs hH hj0
  go_enter Try.func40, Try.ntmps40
  go_wp2_with (go_at_call 53; refine HT.out.mono ?_; intro o w1 hp; obtain ⟨e, rfl⟩ := HQ _ _ hp; have hpp := HF e w1 hp; clear hp)
  all_goals
    go_ret2
  · exact hpp.out
  · rename_i h
    have h0 : e = 0 := by simpa using h
    subst h0
    exact hpp.out
theorem gwrite_bad (G : Nat) (g : Gd) (t : ByteArray) (w : World) (hG : GdAt w G g) (he : g.e ≠ 0) :
    Calls Try.prog 21 #[.pointer (some ⟨G, 0, none⟩), .string t] w fun o w' => o = .returned (.tuple #[.string ⟨#[]⟩, .int .i64 g.e]) ∧ Below w.heap.size w w' := by
  have c6 := hG.e
  have q : (g.e != 0) = true := by simpa using he
  have hb := (Below.refl w.heap.size w).drew
  clear he hG
  go_enter Try.func21, Try.ntmps21
  go_wp2_with fail
  go_region
  all_goals
    go_wp2_with fail
    go_ret2
    exact ⟨rfl, hb⟩
theorem gwrite_walk (G : Nat) (g : Gd) (t : ByteArray) (w : World) (hG : GdAt w G g) (he : g.e = 0) (hz : g.s.size + t.size ≤ 281474976710656) (Q : ByteArray → Int → World → Prop)
    (HQ : Calls Try.prog 40 #[.pointer (some ⟨G, 0, none⟩)] (w.setCell ⟨G, 1, none⟩ (.string (g.s ++ t))) fun o w' => ∃ os e, o = .returned (.tuple #[.string os, .int .i64 e]) ∧ (∃ g', GdAt w' G g') ∧ Q os e w') :
    Calls Try.prog 21 #[.pointer (some ⟨G, 0, none⟩), .string t] w fun o w' => ∃ os e w2, o = .returned (.tuple #[.string os, .int .i64 e]) ∧ Q os e w2 ∧ w' = w2.setCell ⟨G, 6, none⟩ (.int .i64 e) := by
  have c6 := hG.e
  rw [he] at c6
  have c1 := hG.s
  have f1 := hG.frozen 1
  replace HQ := Lib.hid HQ
  clear hG he
  go_enter Try.func21, Try.ntmps21
  go_wp2_with (go_at_call 40; refine HQ.out.mono ?_; rintro o w2 ⟨os, e, rfl, ⟨g', hg'⟩, hq⟩; have k6 := hg'.e; have f6 := hg'.frozen 6; clear hg'; replace hq := Lib.hid hq)
  go_ret2
  exact ⟨_, _, _, rfl, hq.out, rfl⟩
end Go.Proofs.Ytcjcmlnbchmnnaa
