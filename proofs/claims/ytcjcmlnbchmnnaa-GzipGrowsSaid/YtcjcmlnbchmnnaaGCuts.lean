/- What pieces of a member come to, written one behind the other. -/
import Derived.Test.YtcjcmlnbchmnnaaGFixed
import Derived.Deep.RegionHeld3
import Derived.Test.YtcjcmlnbchmnnaaWords
namespace Go.Proofs.Ytcjcmlnbchmnnaa
open Go.RowKit

theorem bound10 (a : Int) (w : World) : Calls Try.prog 18 #[.int .i64 a] w fun e w' => e = .returned (.int .i64 (min a 200000)) ∧ w = w' := by
  go_enter Try.func18, Try.ntmps18
  go_wp2
  all_goals
    go_ret
    exact ⟨ret_int (by omega), rfl⟩
theorem behind_zero {s : List UInt8} {p : Nat} {c : Im.St} {f : Int} {out : List UInt8} {fin : Option Nat} (h : (out, (0 : Int), fin) = Gz.behind s p c f) : f = 0 ∧ out = c.out ∧ (c.state = 3 → Gz.tailP s (p + c.pos / 8) c.out = (0, fin)) := by
  unfold Gz.behind at h
  by_cases hf : f ≠ 0
  · rw [if_pos hf] at h; injection h with _ h; injection h with h _; exact absurd h.symm hf
  · rw [if_neg hf] at h
    have hf0 : f = 0 := by omega
    by_cases h3 : c.state ≠ 3
    · rw [if_pos h3] at h; injection h with h _; exact ⟨hf0, h, fun q => absurd q h3⟩
    · rw [if_neg h3] at h
      by_cases h1 : (Gz.tailP s (p + c.pos / 8) c.out).1 = 0
      · rw [if_pos h1] at h; injection h with h h2; exact ⟨hf0, h, fun _ => h2.symm⟩
      · rw [if_neg h1] at h; injection h with _ h; rw [← h] at h1; exact absurd rfl h1
theorem gz_wrong {s : List UInt8} {most : Nat} {out : List UInt8} {e : Int} {fin : Option Nat} (t : List UInt8) (h : Gz.GRun s most (out, e, fin)) (he : e ≠ 0) : Gz.GRun (s ++ t) most (out, e, fin) := by
  rcases h with ⟨_, h⟩ | ⟨e', h1, h⟩ | ⟨p, c, f, h1, h2, h⟩
  · injection h with _ h; injection h with h _; exact absurd h he
  · refine .inr (.inl ⟨e', ?_, h⟩)
    rcases Gz.magP_app s t with q | q
    · rw [h1] at q; cases q
    · rw [q, h1]
  · have hp := (Gz.magP_le h1).2
    have hm : Gz.magP (s ++ t) = .ok p := by
      rcases Gz.magP_app s t with q | q
      · rw [h1] at q; cases q
      · rw [q, h1]
    have hd : (s ++ t).drop p = s.drop p ++ t := List.drop_append_of_le_length hp
    by_cases hf : f ≠ 0
    · rw [behind_bad hf] at h
      exact .inr (.inr ⟨p, c, f, hm, by rw [hd]; exact h2.wrong t hf, by rw [behind_bad hf]; exact h⟩)
    · have hf0 : f = 0 := by omega
      subst hf0
      by_cases h3 : c.state = 3
      · have ht : Gz.tailP s (p + c.pos / 8) c.out ≠ (0, none) := by
          intro q
          rw [behind_ok h3 q] at h
          injection h with _ h; injection h with h _; exact absurd h he
        refine .inr (.inr ⟨p, c, 0, hm, by rw [hd]; exact h2.ended t h3, ?_⟩)
        have hb : Gz.behind (s ++ t) p c 0 = Gz.behind s p c 0 := by unfold Gz.behind; rw [Gz.tailP_app t ht]
        rw [hb]; exact h
      · rw [behind_on h3] at h
        injection h with _ h; injection h with h _; exact absurd h he
theorem gz_grows {s t : List UInt8} {most : Nat} {out out' : List UInt8} {fin fin' : Option Nat} (h : Gz.GRun s most (out, 0, fin)) (k : Gz.GRun (s ++ t) most (out', 0, fin')) : ∃ o, out' = out ++ o := by
  rcases h with ⟨_, h⟩ | ⟨e', h1, h⟩ | ⟨p, c, f, h1, h2, h⟩
  · injection h with h _; exact ⟨out', by rw [h]; rfl⟩
  · injection h with _ h; injection h with h _
    have := Gz.magP_bad h1
    omega
  · have hp := (Gz.magP_le h1).2
    have hm : Gz.magP (s ++ t) = .ok p := by
      rcases Gz.magP_app s t with q | q
      · rw [h1] at q; cases q
      · rw [q, h1]
    have hd : (s ++ t).drop p = s.drop p ++ t := List.drop_append_of_le_length hp
    obtain ⟨rfl, rfl, _⟩ := behind_zero h
    rcases k with ⟨k1, _⟩ | ⟨e', k1, _⟩ | ⟨p', c', f', k1, k2, k⟩
    · rw [hm] at k1; cases k1
    · rw [hm] at k1; cases k1
    · rw [hm] at k1
      injection k1 with k1
      subst k1
      obtain ⟨rfl, rfl, _⟩ := behind_zero k
      rw [hd] at k2
      exact h2.more k2
theorem gz_out {s : List UInt8} {most : Nat} {out : List UInt8} {fin : Option Nat} (h : Gz.GRun s most (out, 0, fin)) : out.length ≤ most := by
  rcases h with ⟨_, h⟩ | ⟨e', h1, h⟩ | ⟨p, c, f, h1, h2, h⟩
  · injection h with h _; rw [h]; exact Nat.zero_le _
  · injection h with h _; rw [h]; exact Nat.zero_le _
  · obtain ⟨rfl, rfl, _⟩ := behind_zero h
    exact (h2.went (Nat.zero_le _) (Nat.zero_le _)).2.2.2.1 (Nat.zero_le _)
theorem GzIn.run {w : World} {G L most : Nat} {full out : List UInt8} {fin : Option Nat} (h : GzIn w G L most full out fin) : Gz.GRun full most (out, 0, fin) := by
  obtain ⟨R, bk, h1, _⟩ := h; exact h1.run
/-- what was told and what is left, where some of the bytes are written; 'end_' : all are -/
def GCutAt (w0 : World) (G L most : Nat) (S : List UInt8) (done : Prop) (told rest : Value) (w : World) : Prop :=
  ∃ p out fin ts rs, p ≤ S.length ∧ GzIn w G L most (S.take p) out fin ∧ told = .string ts ∧ ts.data.toList = out ∧ rest = .string rs ∧ rs.data.toList = S.drop p ∧ (done → p = S.length) ∧ Below w0.heap.size w0 w
def gcutO (og : List UInt8) : Ending := .returned (.tuple #[.string ⟨og.toArray⟩, .int .i64 0])
def gcutE (g : Int) : Ending := .returned (.tuple #[.string ⟨#[]⟩, .int .i64 g])
theorem gpre_take (rs : ByteArray) (n : Nat) : (rs.extract 0 n).data.toList = rs.data.toList.take n := by simp
/-- a piece is written -/
theorem gcut_step (w0 : World) (G L m : Nat) (S : List UInt8) (out : List UInt8) (e : Int) (fin : Option Nat) (hrun : Gz.GRun S m (out, e, fin)) (hS : S.length ≤ 140737488351232) (hL : w0.heap.size ≤ L) (p : Nat) (co : List UInt8) (cf : Option Nat) (ts rs : ByteArray) (w : World) (n : Nat)
    (hp : p ≤ S.length) (hh : GzIn w G L m (S.take p) co cf) (hts : ts.data.toList = co) (hrs : rs.data.toList = S.drop p) (hb : Below w0.heap.size w0 w) (hn : n ≤ rs.size) (done : Prop) (hdone : done → n = rs.size) :
    (∃ og, ts.size + (ByteArray.mk og.toArray).size ≤ m ∧ Calls Try.prog 21 #[.pointer (some ⟨G, 0, none⟩), .string (rs.extract 0 n)] w fun o w' => o = gcutO og ∧ GCutAt w0 G L m S done (.string (ts ++ ⟨og.toArray⟩)) (.string (rs.extract n rs.size)) w') ∨
    (gE e fin ≠ 0 ∧ Calls Try.prog 21 #[.pointer (some ⟨G, 0, none⟩), .string (rs.extract 0 n)] w fun o w' => o = gcutE (gE e fin) ∧ Below w0.heap.size w0 w') := by
  have hrl : rs.size = S.length - p := by rw [← blen rs, hrs, List.length_drop]
  have hfull : S.take p ++ (rs.extract 0 n).data.toList = S.take (p + n) := by rw [gpre_take, hrs, List.take_add]
  have hsz : (S.take p).length + (rs.extract 0 n).size ≤ 281474976710656 := by rw [← blen, gpre_take, List.length_take, List.length_take, blen]; omega
  obtain ⟨out', g, fin', hr'⟩ := gz_exists (S.take (p + n)) m
  by_cases hg : g = 0
  · subst hg
    obtain ⟨og, hog⟩ := gz_grows (t := (rs.extract 0 n).data.toList) hh.run (by rw [hfull]; exact hr')
    have hol := gz_out hr'
    refine .inl ⟨og, by rw [hog, List.length_append] at hol; rw [← blen ts, hts, ← blen]; exact hol, (gin_write_ok G L m (S.take p) co out' cf fin' (rs.extract 0 n) w hh (Nat.le_of_lt (Nat.lt_of_le_of_lt hh.lt.1 hh.lt.2)) hsz (by rw [hfull]; exact hr')).mono ?_⟩
    rintro o w' ⟨ho, h3, hb3⟩
    rw [hfull] at h3
    refine ⟨by rw [ho, hog, List.drop_left]; rfl, p + n, out', fin', _, _, by omega, h3, rfl, ?_, rfl, ?_, fun hd => by have := hdone hd; omega, hb.trans (hb3.mono hL)⟩
    · rw [str_app, hts, hog]
    · rw [ext_list, hrs, List.drop_drop]
  · have hw : Gz.GRun (S.take (p + n) ++ S.drop (p + n)) m (out', g, fin') := gz_wrong _ hr' hg
    rw [List.take_append_drop] at hw
    have hdet := hw.det hrun
    injection hdet with d1 d2
    injection d2 with d2 d3
    subst d1 d2 d3
    have he : gE g fin' = g := if_pos hg
    refine .inr ⟨by rw [he]; exact hg, (gin_write_bad G L m (S.take p) co out' cf fin' g (rs.extract 0 n) w hh (Nat.le_of_lt (Nat.lt_of_le_of_lt hh.lt.1 hh.lt.2)) hsz (by rw [hfull]; exact hr') hg).mono ?_⟩
    rintro o w' ⟨ho, _, hb3⟩
    exact ⟨by rw [ho, he]; rfl, hb.trans (hb3.mono hL)⟩
end Go.Proofs.Ytcjcmlnbchmnnaa
