/- A gzip Reader and all bytes that it was written so far: New, Write, Done, Rest: their contracts. -/
import Derived.Test.YtcjcmlnbchmnnaaGWrite
namespace Go.Proofs.Ytcjcmlnbchmnnaa
open Go.RowKit

/-- the gzip Reader in block G (its Reader in R, with bytes in bk) was written full, has told out, and has ended behind fin bytes -/
def GzAt (w : World) (G R : Nat) (bk : Option Nat) (most : Nat) (full out : List UInt8) (fin : Option Nat) : Prop :=
  ∃ g : Gd, GdAt w G g ∧ g.e = 0 ∧ g.r = .pointer (some ⟨R, 0, none⟩) ∧
   ((∃ k fl p : Nat, k ≤ 4 ∧ g.st = k ∧ g.fl = fl ∧ fl < 256 ∧ g.p = p ∧ p ≤ full.length ∧ g.s.data.toList = full ∧ g.sum = 0 ∧ (∀ u, Gz.magP (full ++ u) = Gz.stg k fl (full ++ u) p) ∧ Gz.magP full = .more ∧ HistB w R bk most [] Im.start ∧ out = [] ∧ fin = none) ∨
    (∃ (p : Nat) (c : Im.St), Gz.magP full = .ok p ∧ g.st = 5 ∧ g.s = ⟨#[]⟩ ∧ g.p = 0 ∧ HistB w R bk most (full.drop p) c ∧ c.state ≠ 3 ∧ g.sum = (Cm.crc 0 c.out : Nat) ∧ out = c.out ∧ fin = none) ∨
    (∃ (p j : Nat) (c : Im.St) (F u : List UInt8), Gz.magP full = .ok p ∧ HistB w R bk most F c ∧ full.drop p = F ++ u ∧ c.state = 3 ∧ g.p = 0 ∧ g.sum = (Cm.crc 0 c.out : Nat) ∧ out = c.out ∧ j ≤ 2 ∧ g.st = ((6 + j : Nat) : Int) ∧ p + c.pos / 8 + 4 * j ≤ full.length ∧ g.s.data.toList = full.drop (p + c.pos / 8 + 4 * j) ∧
      (∀ i, i < j → Gz.nAt 4 full (p + c.pos / 8 + 4 * i) = wantN c.out i) ∧ (j = 2 ∨ full.length < p + c.pos / 8 + 4 * j + 4) ∧ fin = if j = 2 then some (p + c.pos / 8 + 8) else none))
theorem tail_of {s : List UInt8} {Q j : Nat} {out : List UInt8} (hj : j ≤ 2) (hall : ∀ i, i < j → Gz.nAt 4 s (Q + 4 * i) = wantN out i) (hl : Q + 4 * j ≤ s.length) :
    ((j = 2 ∨ s.length < Q + 4 * j + 4) → Gz.tailP s Q out = (0, if j = 2 then some (Q + 8) else none)) ∧ (j < 2 → Q + 4 * j + 4 ≤ s.length → Gz.nAt 4 s (Q + 4 * j) ≠ wantN out j → Gz.tailP s Q out = (101, none)) := by
  unfold Gz.tailP
  rcases (by omega : j = 0 ∨ j = 1 ∨ j = 2) with rfl | rfl | rfl
  · refine ⟨fun h => ?_, fun _ h1 h2 => ?_⟩
    · rw [if_pos (by omega)]; rfl
    · have h2' : Gz.nAt 4 s Q ≠ Cm.crc 0 out := h2
      rw [if_neg (by omega), if_pos h2']
  · have h0 := hall 0 (by omega)
    refine ⟨fun h => ?_, fun _ h1 h2 => ?_⟩
    · rw [if_neg (by omega), if_neg (fun q => q h0), if_pos (by omega)]; rfl
    · have h2' : Gz.nAt 4 s (Q + 4) ≠ out.length % 4294967296 := h2
      rw [if_neg (by omega), if_neg (fun q => q h0), if_neg (by omega), if_pos h2']
  · have h0 := hall 0 (by omega)
    have h1 := hall 1 (by omega)
    refine ⟨fun h => ?_, fun h => by omega⟩
    rw [if_neg (by omega), if_neg (fun q => q h0), if_neg (by omega), if_neg (fun q => q h1)]
    rfl
theorem behind_bad {s : List UInt8} {p : Nat} {c : Im.St} {f : Int} (h : f ≠ 0) : Gz.behind s p c f = ([], f, none) := if_pos h
theorem behind_on {s : List UInt8} {p : Nat} {c : Im.St} (h : c.state ≠ 3) : Gz.behind s p c 0 = (c.out, 0, none) := by
  unfold Gz.behind; rw [if_neg (show ¬ (0 : Int) ≠ 0 from fun q => q rfl), if_pos h]
theorem behind_ok {s : List UInt8} {p : Nat} {c : Im.St} {fin : Option Nat} (h : c.state = 3) (ht : Gz.tailP s (p + c.pos / 8) c.out = (0, fin)) : Gz.behind s p c 0 = (c.out, 0, fin) := by
  unfold Gz.behind; rw [if_neg (show ¬ (0 : Int) ≠ 0 from fun q => q rfl), if_neg (show ¬ c.state ≠ 3 from fun q => q h), ht]; exact if_pos rfl
theorem behind_no {s : List UInt8} {p : Nat} {c : Im.St} (h : c.state = 3) (ht : Gz.tailP s (p + c.pos / 8) c.out = (101, none)) : Gz.behind s p c 0 = ([], 101, none) := by
  unfold Gz.behind; rw [if_neg (show ¬ (0 : Int) ≠ 0 from fun q => q rfl), if_neg (show ¬ c.state ≠ 3 from fun q => q h), ht]; exact if_neg (show ¬ (101 : Int) = 0 by omega)
theorem nAt_drop (n : Nat) (s : List UInt8) (q i : Nat) : Gz.nAt n (s.drop q) i = Gz.nAt n s (q + i) := by
  unfold Gz.nAt; rw [List.drop_drop]
/-- what Write comes to, ahead of the last store -/
def GzMid (G R : Nat) (bk : Option Nat) (most : Nat) (full out : List UInt8) (w : World) (os : ByteArray) (e : Int) (w2 : World) : Prop :=
  Fr (Own2 G R bk) w w2 ∧ ∃ out' fin', Gz.GRun full most (out', e, fin') ∧
    ((e ≠ 0 ∧ os = ⟨#[]⟩ ∧ ∃ g', GdAt w2 G g') ∨ (e = 0 ∧ os = ⟨(out'.drop out.length).toArray⟩ ∧ ∃ bk', GzAt w2 G R bk' most full out' fin' ∧ (bk' = bk ∨ ∀ k, bk' = some k → w.heap.size ≤ k)))
/-- out of a stream -/
theorem mid_stream {G R : Nat} {bk : Option Nat} {most p : Nat} {g : Gd} {F full : List UInt8} {c0 : Im.St} {S : ByteArray} {w w1 w2 : World} {o : Ending} (h : StreamPost G R bk most g F c0 S w1 o w2) (hw : Fr (Own2 G R bk) w w1) (hz : w.heap.size ≤ w1.heap.size)
    (hm : Gz.magP full = .ok p) (hF : F ++ S.data.toList = full.drop p) (hp : p ≤ full.length) (he : g.e = 0) (hr : g.r = .pointer (some ⟨R, 0, none⟩)) : ∃ os e, o = .returned (.tuple #[.string os, .int .i64 e]) ∧ (∃ g', GdAt w2 G g') ∧ GzMid G R bk most full c0.out w os e w2 := by
  obtain ⟨hf, c, f, hrun, hcs⟩ := h
  rw [hF] at hrun
  have hff := hw.trans hf
  rcases hcs with ⟨hf0, ho, g', hg⟩ | ⟨rfl, fl, bk', hH, hbk, hcs⟩
  · refine ⟨_, _, ho, ⟨g', hg⟩, hff, [], none, .inr (.inr ⟨p, c, f, hm, hrun, ?_⟩), .inl ⟨hf0, rfl, g', hg⟩⟩
    exact (behind_bad hf0).symm
  · rw [hF] at hH
    rcases hcs with ⟨h3, ho, hg⟩ | ⟨h3, rs, j, hrs, hj, hjs, hg, hall, hcs⟩
    · refine ⟨_, _, ho, ⟨_, hg⟩, hff, c.out, none, .inr (.inr ⟨p, c, 0, hm, hrun, ?_⟩), .inr ⟨rfl, rfl, bk', ⟨_, hg, he, hr, .inr (.inl ⟨p, c, hm, rfl, rfl, rfl, hH, h3, rfl, rfl, rfl⟩)⟩, .inr fun k hk => Nat.le_trans hz (hbk k hk)⟩⟩
      exact (behind_on h3).symm
    · have hev := hrun.went (Nat.zero_le _) (Nat.zero_le _)
      have hpos := hev.1
      rw [List.length_drop] at hpos
      rw [hF, List.drop_drop] at hrs
      have hrl : rs.size = full.length - (p + c.pos / 8) := by rw [← blen, hrs, List.length_drop]
      have hall' : ∀ i, i < j → Gz.nAt 4 full (p + c.pos / 8 + 4 * i) = wantN c.out i := fun i hi => by rw [← nAt_drop, ← hrs]; exact hall i hi
      have hl : p + c.pos / 8 + 4 * j ≤ full.length := by omega
      obtain ⟨t1, t2⟩ := tail_of hj hall' hl
      rcases hcs with ⟨ho, hx⟩ | ⟨ho, hj2, hx, hne⟩
      · have ht := t1 (by omega)
        refine ⟨_, _, ho, ⟨_, hg⟩, hff, c.out, (if j = 2 then some (p + c.pos / 8 + 8) else none), .inr (.inr ⟨p, c, 0, hm, hrun, ?_⟩), .inr ⟨rfl, rfl, bk', ⟨_, hg, he, hr, .inr (.inr ⟨p, j, c, _, [], hm, hH, (List.append_nil _).symm, h3, rfl, rfl, rfl, hj, rfl, hl, ?_, hall', by omega, rfl⟩)⟩, .inr fun k hk => Nat.le_trans hz (hbk k hk)⟩⟩
        · exact (behind_ok h3 ht).symm
        · show (rs.extract (4 * j) rs.size).data.toList = _
          rw [drop_list, hrs, List.drop_drop]
      · have ht := t2 hj2 (by omega) (by rw [← nAt_drop, ← hrs]; exact hne)
        refine ⟨_, _, ho, ⟨_, hg⟩, hff, [], none, .inr (.inr ⟨p, c, 0, hm, hrun, ?_⟩), .inl ⟨by omega, rfl, _, hg⟩⟩
        exact (behind_no h3 ht).symm
def GzPost (G R : Nat) (bk : Option Nat) (most : Nat) (full out : List UInt8) (w : World) (o : Ending) (w' : World) : Prop :=
  Fr (Own2 G R bk) w w' ∧ ∃ out' e fin', Gz.GRun full most (out', e, fin') ∧
    ((e ≠ 0 ∧ o = .returned (.tuple #[.string ⟨#[]⟩, .int .i64 e]) ∧ ∃ g', GdAt w' G g' ∧ g'.e = e) ∨
     (e = 0 ∧ o = .returned (.tuple #[.string ⟨(out'.drop out.length).toArray⟩, .int .i64 0]) ∧ ∃ bk', GzAt w' G R bk' most full out' fin' ∧ (bk' = bk ∨ ∀ k, bk' = some k → w.heap.size ≤ k)))
theorem GzAt.gz {w w' : World} {G R most : Nat} {bk : Option Nat} {full out : List UInt8} {fin : Option Nat} (h : GzAt w G R bk most full out fin) (hf : Fr (fun _ => False) w w') : GzAt w' G R bk most full out fin := by
  obtain ⟨g, hG, he, hr, hc⟩ := h
  have hk : ∀ {F c}, HistB w R bk most F c → HistB w' R bk most F c := fun h => h.frS hf (fun q => q) (fun _ _ q => q) (fun _ q => q.elim)
  refine ⟨g, hG.fr hf (fun q => q), he, hr, ?_⟩
  rcases hc with ⟨k, fl, p, h1, h2, h3, h4, h5, h6, h7, h8, h9, h10, h11, h12⟩ | ⟨p, c, h1, h2, h3, h4, h5, h6⟩ | ⟨p, j, c, F, u, h1, h2, h3⟩
  · exact .inl ⟨k, fl, p, h1, h2, h3, h4, h5, h6, h7, h8, h9, h10, hk h11, h12⟩
  · exact .inr (.inl ⟨p, c, h1, h2, h3, h4, hk h5, h6⟩)
  · exact .inr (.inr ⟨p, j, c, F, u, h1, hk h2, h3⟩)
theorem GzAt.setE {w : World} {G R most : Nat} {bk : Option Nat} {full out : List UInt8} {fin : Option Nat} (h : GzAt w G R bk most full out fin) : GzAt (w.setCell ⟨G, 6, none⟩ (.int .i64 0)) G R bk most full out fin := by
  obtain ⟨g, hG, he, hr, hc⟩ := h
  have hf : Fr (· = G) w (w.setCell ⟨G, 6, none⟩ (.int .i64 0)) := (Fr.refl (· = G) w).setCell (Or.inl rfl) _
  have hk : ∀ {F c}, HistB w R bk most F c → HistB (w.setCell ⟨G, 6, none⟩ (.int .i64 0)) R bk most F c := fun h => h.gz hG hf
  have hG' : GdAt (w.setCell ⟨G, 6, none⟩ (.int .i64 0)) G g := hG.set 6 _ (by unfold Gd.cells; rw [he]; rfl)
  refine ⟨g, hG', he, hr, ?_⟩
  rcases hc with ⟨k, fl, p, h1, h2, h3, h4, h5, h6, h7, h8, h9, h10, h11, h12⟩ | ⟨p, c, h1, h2, h3, h4, h5, h6⟩ | ⟨p, j, c, F, u, h1, h2, h3⟩
  · exact .inl ⟨k, fl, p, h1, h2, h3, h4, h5, h6, h7, h8, h9, h10, hk h11, h12⟩
  · exact .inr (.inl ⟨p, c, h1, h2, h3, h4, hk h5, h6⟩)
  · exact .inr (.inr ⟨p, j, c, F, u, h1, hk h2, h3⟩)
theorem post_of_mid {G R : Nat} {bk : Option Nat} {most : Nat} {full out : List UInt8} {w w2 : World} {os : ByteArray} {e : Int} (h : GzMid G R bk most full out w os e w2) : GzPost G R bk most full out w (.returned (.tuple #[.string os, .int .i64 e])) (w2.setCell ⟨G, 6, none⟩ (.int .i64 e)) := by
  obtain ⟨hf, out', fin', hr, hcs⟩ := h
  refine ⟨hf.setCell (p := ⟨G, 6, none⟩) (Or.inl (Or.inl rfl)) _, out', e, fin', hr, ?_⟩
  rcases hcs with ⟨he, rfl, g', hg⟩ | ⟨rfl, rfl, bk', hg, hb⟩
  · exact .inl ⟨he, rfl, { g' with e := e }, hg.set 6 _ rfl, rfl⟩
  · exact .inr ⟨rfl, rfl, bk', hg.setE, hb⟩
theorem gz_write (G R : Nat) (bk : Option Nat) (most : Nat) (full out : List UInt8) (fin : Option Nat) (t : ByteArray) (w : World) (h : GzAt w G R bk most full out fin) (hs : full.length + t.size ≤ 281474976710656) :
    Calls Try.prog 21 #[.pointer (some ⟨G, 0, none⟩), .string t] w (GzPost G R bk most (full ++ t.data.toList) out w) := by
  obtain ⟨g, hG, he, hr, hc⟩ := h
  have hf1 : Fr (· = G) w (w.setCell ⟨G, 1, none⟩ (.string (g.s ++ t))) := (Fr.refl (· = G) w).setCell (Or.inl rfl) _
  have hG1 : GdAt (w.setCell ⟨G, 1, none⟩ (.string (g.s ++ t))) G { g with s := g.s ++ t } := hG.set 1 _ rfl
  have hw1 : Fr (Own2 G R bk) w (w.setCell ⟨G, 1, none⟩ (.string (g.s ++ t))) := hf1.mono fun k _ e => .inl e
  have hz1 : w.heap.size ≤ (w.setCell ⟨G, 1, none⟩ (.string (g.s ++ t))).heap.size := hf1.size
  have hsz : g.s.size + t.size ≤ 281474976710656 := by
    rcases hc with ⟨k, fl, p, _, _, _, _, _, _, h7, _⟩ | ⟨p, c, _, _, h3, _⟩ | ⟨p, j, c, F, u, _, _, _, _, _, _, _, _, _, _, h12, _⟩
    · rw [← blen, h7]; exact hs
    · rw [h3]; show 0 + _ ≤ _; omega
    · rw [← blen, h12, List.length_drop]; omega
  have hk : ∀ {F c}, HistB w R bk most F c → HistB (w.setCell ⟨G, 1, none⟩ (.string (g.s ++ t))) R bk most F c := fun h => h.gz hG hf1
  suffices HQ : Calls Try.prog 40 #[.pointer (some ⟨G, 0, none⟩)] (w.setCell ⟨G, 1, none⟩ (.string (g.s ++ t))) fun o w' => ∃ os e, o = .returned (.tuple #[.string os, .int .i64 e]) ∧ (∃ g', GdAt w' G g') ∧ GzMid G R bk most (full ++ t.data.toList) out w os e w' by
    refine (gwrite_walk G g t w hG he hsz (GzMid G R bk most (full ++ t.data.toList) out w) HQ).mono ?_
    rintro o w' ⟨os, e, w2, rfl, hq, rfl⟩
    exact post_of_mid hq
  generalize w.setCell ⟨G, 1, none⟩ (.string (g.s ++ t)) = w1 at *
  have hsl : (g.s ++ t).size = g.s.size + t.size := str_size _ _
  have hll : (full ++ t.data.toList).length = full.length + t.size := by rw [List.length_append, blen]
  rcases hc with ⟨k, fl, p, h1, h2, h3, h4, h5, h6, h7, h8, h9, h10, h11, rfl, rfl⟩ | ⟨p, c, h1, h2, h3, h4, h5, h6, h7, rfl, rfl⟩ | ⟨p, j, c, F, u, h1, h2, h3, h4, h5, h6, rfl, h8, h9, h10, h11, h12, h13, rfl⟩
  · have hfl : ({ g with s := g.s ++ t } : Gd).s.data.toList = full ++ t.data.toList := by rw [← h7]; exact str_app _ _
    have hps : p ≤ ({ g with s := g.s ++ t } : Gd).s.size := by show p ≤ (g.s ++ t).size; rw [hsl, ← blen g.s, h7]; omega
    have hm := h9 t.data.toList
    cases hmm : Gz.magP (full ++ t.data.toList) with
    | ok q =>
      have hq := Gz.magP_le hmm
      have hst : Gz.stg k fl ({ g with s := g.s ++ t } : Gd).s.data.toList p = .ok q := by rw [hfl, ← hm, hmm]
      have hqs : q ≤ ({ g with s := g.s ++ t } : Gd).s.size := by rw [← blen, hfl]; exact hq.2
      refine (goes_stream G R bk most _ [] Im.start (({ g with s := g.s ++ t } : Gd).s.extract q ({ g with s := g.s ++ t } : Gd).s.size) w1 hG1 (.inr ⟨k, fl, p, q, h2, h3, h5, hps, h4, h1, hst, hqs, rfl, rfl, rfl, hk h11, hr, h8, by show (g.s ++ t).size ≤ _; omega⟩)).mono ?_
      intro o w2 hp
      exact mid_stream hp hw1 hz1 hmm (by rw [List.nil_append, drop_list, hfl]) hq.2 he hr
    | more =>
      have hst : Gz.stg k fl ({ g with s := g.s ++ t } : Gd).s.data.toList p = .more := by rw [hfl, ← hm, hmm]
      refine (goes_fail G _ k fl p w1 hG1 h2 h3 h5 hps h4 h1 (by show (g.s ++ t).size ≤ _; omega) (by rw [hst]; intro q hq; cases hq)).mono ?_
      rintro o w2 ⟨e, rfl, hp⟩
      unfold HeadPost at hp
      rw [hst] at hp
      obtain ⟨hoe, k', hk', fl', p', s1, s2, s3, s4, s5⟩ := hp
      have h0 : e = 0 := by injection hoe with hoe; injection hoe with hoe; injection hoe with hoe; injection hoe with _ hoe; injection hoe with hoe; injection hoe
      subst h0
      refine ⟨_, _, rfl, ⟨_, s1⟩, hw1.trans (s4.mono fun k _ e => .inl e), [], none, .inl ⟨hmm, rfl⟩, .inr ⟨rfl, rfl, bk, ⟨_, s1, he, hr, .inl ⟨k', fl', p', hk', rfl, rfl, s3, rfl, ?_, hfl, h8, ?_, hmm, (hk h11).gz hG1 s4, rfl, rfl⟩⟩, .inl rfl⟩⟩
      · rw [← hfl, blen]; exact s2
      · intro v
        rw [List.append_assoc, h9, ← List.append_assoc, ← hfl]
        exact s5 v
    | bad e' =>
      have hst : Gz.stg k fl ({ g with s := g.s ++ t } : Gd).s.data.toList p = .bad e' := by rw [hfl, ← hm, hmm]
      refine (goes_fail G _ k fl p w1 hG1 h2 h3 h5 hps h4 h1 (by show (g.s ++ t).size ≤ _; omega) (by rw [hst]; intro q hq; cases hq)).mono ?_
      rintro o w2 ⟨e, rfl, hp⟩
      unfold HeadPost at hp
      rw [hst] at hp
      obtain ⟨hoe, s4, g', hg', _⟩ := hp
      have h0 : e = e' := by injection hoe with hoe; injection hoe with hoe; injection hoe with hoe; injection hoe with _ hoe; injection hoe with hoe; injection hoe
      subst h0
      have hne : e ≠ 0 := by rcases Gz.magP_bad hmm with q | q <;> omega
      exact ⟨_, _, rfl, ⟨_, hg'⟩, hw1.trans (s4.mono fun k _ e => .inl e), [], none, .inr (.inl ⟨e, hmm, rfl⟩), .inl ⟨hne, rfl, _, hg'⟩⟩
  · have hq := Gz.magP_le h1
    have hmm : Gz.magP (full ++ t.data.toList) = .ok p := by
      rcases Gz.magP_app full t.data.toList with q | q
      · rw [h1] at q; cases q
      · rw [q, h1]
    have hst : g.s ++ t = t := by rw [h3]; exact bytes_ext (by rw [str_app]; rfl)
    rw [hst] at hG1
    refine (goes_stream G R bk most { g with s := t } (full.drop p) c t w1 hG1 (.inl ⟨h2, ⟨⟨g.fl, by rw [← h2, ← h4]; exact hG1⟩, hk h5, Fr.refl _ _, hr, h7, by rw [List.length_drop]; omega⟩⟩)).mono ?_
    intro o w2 hp
    exact mid_stream hp hw1 hz1 hmm (by rw [List.drop_append_of_le_length hq.2]) (by rw [hll]; omega) he hr
  · have hq := Gz.magP_le h1
    have hmm : Gz.magP (full ++ t.data.toList) = .ok p := by
      rcases Gz.magP_app full t.data.toList with q | q
      · rw [h1] at q; cases q
      · rw [q, h1]
    have hs1 : ({ g with s := g.s ++ t } : Gd).s.data.toList = (full ++ t.data.toList).drop (p + c.pos / 8 + 4 * j) := by
      rw [List.drop_append_of_le_length h10, ← h11]; exact str_app _ _
    have hsz1 : ({ g with s := g.s ++ t } : Gd).s.size = full.length + t.size - (p + c.pos / 8 + 4 * j) := by rw [← blen, hs1, List.length_drop, hll]
    have hdr : (full ++ t.data.toList).drop p = F ++ (u ++ t.data.toList) := by rw [List.drop_append_of_le_length hq.2, h3, List.append_assoc]
    have hrun : Im.Run ((full ++ t.data.toList).drop p) most Im.start c 0 := by rw [hdr]; exact h2.run.ended _ h4
    refine (goes_tail G R _ bk most F c j w1 hG1 h9 h8 h5 hr h6 (by show (g.s ++ t).size ≤ _; omega) (hk h2)).mono ?_
    rintro o w2 ⟨e, rfl, j', ⟨s1, s2, s3, s4, s5, s6⟩, hx⟩
    have hall' : ∀ i, i < j' → Gz.nAt 4 (full ++ t.data.toList) (p + c.pos / 8 + 4 * i) = wantN c.out i := by
      intro i hi
      by_cases hij : i < j
      · rw [Gz.nAt_app _ (by omega)]; exact h12 i hij
      · have := s6 i (by omega) hi
        rw [hs1, nAt_drop, show p + c.pos / 8 + 4 * j + 4 * (i - j) = p + c.pos / 8 + 4 * i by omega] at this
        exact this
    have hl' : p + c.pos / 8 + 4 * j' ≤ (full ++ t.data.toList).length := by rw [hll]; omega
    obtain ⟨t1, t2⟩ := tail_of s4 hall' hl'
    have hF2 : Fr (Own2 G R bk) w w2 := hw1.trans (s2.mono fun k _ e => .inl e)
    rcases hx with ⟨hoe, hx⟩ | ⟨hoe, hj2, hx, hne⟩
    · have h0 : e = 0 := by injection hoe with hoe; injection hoe
      subst h0
      have ht := t1 (by rw [hll]; omega)
      refine ⟨_, _, rfl, ⟨_, s1⟩, hF2, c.out, (if j' = 2 then some (p + c.pos / 8 + 8) else none), .inr (.inr ⟨p, c, 0, hmm, hrun, ?_⟩), .inr ⟨rfl, ?_, bk, ⟨_, s1, he, hr, .inr (.inr ⟨p, j', c, F, _, hmm, (hk h2).gz hG1 s2, hdr, h4, h5, h6, rfl, s4, rfl, hl', ?_, hall', by rw [hll]; omega, rfl⟩)⟩, .inl rfl⟩⟩
      · exact (behind_ok h4 ht).symm
      · rw [List.drop_length]
      · show (({ g with s := g.s ++ t } : Gd).s.extract (4 * (j' - j)) ({ g with s := g.s ++ t } : Gd).s.size).data.toList = _
        rw [drop_list, hs1, List.drop_drop]
        congr 1
        omega
    · have h0 : e = 101 := by injection hoe with hoe; injection hoe
      subst h0
      have ht := t2 hj2 (by rw [hll]; omega) (by
        rw [hs1, nAt_drop, show p + c.pos / 8 + 4 * j + 4 * (j' - j) = p + c.pos / 8 + 4 * j' by omega] at hne
        exact hne)
      refine ⟨_, _, rfl, ⟨_, s1⟩, hF2, [], none, .inr (.inr ⟨p, c, 0, hmm, hrun, ?_⟩), .inl ⟨by omega, rfl, _, s1⟩⟩
      exact (behind_no h4 ht).symm
end Go.Proofs.Ytcjcmlnbchmnnaa
