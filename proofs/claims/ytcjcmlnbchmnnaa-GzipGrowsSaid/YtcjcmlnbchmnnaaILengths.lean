/- (*inflate.Reader).lengths: its contract by the model. -/
import Derived.Test.YtcjcmlnbchmnnaaIRow
import Derived.Deep.RegionHeld3
namespace Go.Proofs.Ytcjcmlnbchmnnaa
open Go.RowKit

def LensPost (R : Nat) (r : Rd) (w : World) (x : Except Int (List Nat × Nat)) (o : Ending) (w' : World) : Prop :=
  match x with
  | .ok (l, p) => ∃ a0 cap, o = .returned (.slice a0 l.length cap) ∧ IRow w' w.heap.size (.slice a0 l.length cap) l ∧ RdAt w' R { r with bit := (p : Int) } ∧ Fr (· = R) w w'
  | .error e => o = stopped e ∧ Fr (· = R) w w'
theorem LensPost.stops {R : Nat} {r : Rd} {w : World} {X : Except Int (List Nat × Nat)} {e : Int} (hX : .error e = X) {w' : World} (hf : Fr (· = R) w w') : LensPost R r w X (stopped e) w' := by subst hX; exact ⟨rfl, hf⟩
theorem LensPost.ends {R : Nat} {r : Rd} {w : World} {X : Except Int (List Nat × Nat)} {l : List Nat} {p : Nat} (hX : .ok (l, p) = X) {a0 : Option Addr} {cap : Nat} {w' : World} (hr : IRow w' w.heap.size (.slice a0 l.length cap) l) (hR : RdAt w' R { r with bit := (p : Int) }) (hf : Fr (· = R) w w') : LensPost R r w X (.returned (.slice a0 l.length cap)) w' := by subst hX; exact ⟨a0, cap, rfl, hr, hR, hf⟩

set_option maxRecDepth 100000 in
set_option maxHeartbeats 4000000 in
theorem lengths_model (R T : Nat) (ns : List Nat) (r : Rd) (pos all : Nat) (w : World) (hR : RdAt w R r) (hT : TableAt w T ns) (hsh : Hm.Short ns) (hp : r.bit = pos) (hpos : pos ≤ 8 * r.s.size) (hs : r.s.size ≤ 281474976710656) (hall : all ≤ 400) :
    Calls Try.prog 85 #[.pointer (some ⟨R, 0, none⟩), .pointer (some ⟨T, 0, none⟩), .int .i64 (all : Int)] w (LensPost R r w (Im.lensP ns r.s.data.toList all (all + 1) pos [])) := by
  have hR0 : RdAt w R { r with bit := (pos : Int) } := hR.same hp
  have HX : Hid (∃ X, Im.lensP ns r.s.data.toList all (all + 1) pos [] = X) := ⟨_, rfl⟩
  generalize hX0 : Im.lensP ns r.s.data.toList all (all + 1) pos [] = X
  have HX0 := Lib.hid hX0
  clear hX0 HX
  obtain ⟨i0, hi, hz0, hz1, hz2⟩ := info_int_parts
  go_enter Try.func85, Try.ntmps85
  go_wp2
  go_loopg [7] (all + 1) (fun g v wr => ∃ (l : List Nat) (p : Nat), IRow wr w.heap.size v l ∧ l.length ≤ all ∧ all < g + l.length ∧ RdAt wr R { r with bit := (p : Int) } ∧ p ≤ 8 * r.s.size ∧ Fr (· = R) w wr ∧ Hid (Im.lensP ns r.s.data.toList all g p l = X))
  case atStart => exact ⟨[], pos, IRow.nil _ _, by simp, by simp, hR0, hpos, Fr.refl _ w, HX0⟩
  case round =>
    clear HX0 hR0
    obtain ⟨l, p, hrow, hla, hfa, hRk, hpk, hfk, HX⟩ := hrel
    obtain ⟨f, rfl⟩ : ∃ f, gk = f + 1 := ⟨gk - 1, by omega⟩
    obtain ⟨a0, cap, ev, hv⟩ := hrow.slice
    subst ev
    by_cases hlt : l.length < all
    · have q0 : decide ((l.length : Int) < (all : Int)) = true := by simp; omega
      have q0' : decide (l.length < all) = true := by simp; omega
      have HS := symbol_moves R T ns { r with bit := (p : Int) } p wr hRk (hT.fr hR hfk) hsh rfl hpk hs
      cases hx : Im.symP ns r.s.data.toList p with
      | error e =>
        simp only [hx] at HS
        have HX' : Hid (.error e = X) := by have := HX.out; rw [Im.lensP, if_pos hlt, hx] at this; exact this
        clear HX hx hla hfa hlt hv
        go_wp2_with (go_at_call 75; refine HS.mono ?_; rintro o w1 ⟨he, hf1⟩; unfold stopped at he; subst he)
        exact ⟨rfl, LensPost.stops HX'.out (hfk.trans hf1)⟩
      | ok v =>
        obtain ⟨x, p1⟩ := v
        simp only [hx] at HS
        obtain ⟨x1, x2, x3, _⟩ := Im.symP_ok hx
        rw [blen] at x3
        have HX' := HX.out
        rw [Im.lensP, if_pos hlt, hx] at HX'
        replace HX' := Lib.hid HX'
        clear HX hx
        go_upto_block 2 with (go_at_call 75; refine HS.mono ?_; rintro o w1 ⟨rfl, hR1, hf1⟩; clear HS)
        have hrow1 := hrow.fr hRk hf1
        replace hf1 := hfk.trans hf1
        clear hrow hRk hfk
        go_cut [9, 10] (fun m v wx => ∃ (many what p2 : Nat), m = .int .i64 (many : Int) ∧ v = .int .i64 (what : Int) ∧ many ≤ 200 ∧ 1 ≤ many ∧ p2 ≤ 8 * r.s.size ∧ RdAt wx R { r with bit := (p2 : Int) } ∧ Fr (· = R) w wx ∧ IRow wx w.heap.size (.slice a0 l.length cap) l ∧ Hid ((if l.length + many ≤ all then Im.lensP ns r.s.data.toList all f p2 (l ++ List.replicate many what) else .error 90) = X))
        case first =>
          by_cases h16 : x = 16
          · subst h16
            by_cases hnil : l = []
            · have HX2 : Hid (.error 90 = X) := by have := HX'.out; rw [if_pos rfl, if_pos hnil] at this; exact this
              have q2 : decide ((0 : Int) < (l.length : Int)) = false := by simp [hnil]
              have q2' : decide (0 < l.length) = false := by simp [hnil]
              clear HX' hv hnil
              go_wp2_with (go_at_call 71; refine (must_no _ _).mono ?_; rintro e w' ⟨he, rfl⟩; unfold stopped at he; subst he)
              exact ⟨rfl, LensPost.stops HX2.out hf1⟩
            have hpos0 : 0 < l.length := by cases l with | nil => exact absurd rfl hnil | cons _ _ => simp
            have q2 : decide ((0 : Int) < (l.length : Int)) = true := by simp; omega
            have q2' : decide (0 < l.length) = true := by simp; omega
            obtain ⟨g, cap', ev', hcl⟩ := hrow1.at (l.length - 1) (by omega)
            cases ev'
            have hlast : l[l.length - 1] = l.getLastD 0 := by rw [List.getLastD_eq_getLast?, List.getLast?_eq_some_getLast hnil, List.getLast_eq_getElem]; rfl
            rw [hlast] at hcl
            have hglt : g < w1.heap.size := World.block_lt_of_cell? w1 _ hcl
            have hgR : ¬ g = R := by
              rintro rfl
              rcases hrow1.2 with ⟨h1, _⟩ | ⟨g', _, cur, h1, _, h3, _⟩
              · cases h1
              · cases h1; unfold RdAt at hR1; rw [h3] at hR1; cases hR1
            have HB := fun w' hR' => bits_moves R { r with bit := (p1 : Int) } p1 2 w' hR' rfl (by omega) x3 hs
            have a2 : IntKind.i64.wrap ((l.length : Int) - 1) = ((l.length - 1 : Nat) : Int) := by rw [IntWalk.i64_in _ (by omega)]; omega
            have a3 : ((l.length - 1 : Nat) : Int) < (l.length : Int) := by omega
            have a3' : l.length - 1 < l.length := by omega
            clear hlast
            cases hk : Im.bitsP r.s.data.toList p1 2 with
            | error e =>
              simp only [hk] at HB
              have HX2 : Hid (.error e = X) := by
                have := HX'.out
                rw [if_pos rfl, if_neg hnil, hk] at this; exact this
              clear HX' hk hv hnil
              generalize l.getLastD 0 = what at *
              generalize l.length - 1 = lk at *
              go_wp2_with (go_at_call 71; refine (must_yes _ _).mono ?_; rintro e w' ⟨rfl, rfl⟩)
              go_region_dies
              all_goals (go_wp2_with (go_at_call 57; refine (HB _ hR1.drew).mono ?_; rintro o w2 ⟨he, hf2⟩; unfold stopped at he; subst he))
              all_goals exact ⟨rfl, LensPost.stops HX2.out (hf1.trans ((Fr.refl _ w1).drew.trans hf2))⟩
            | ok v =>
              obtain ⟨k, p2⟩ := v
              simp only [hk] at HB
              obtain ⟨k1, k2, k3⟩ := Im.bitsP_ok hk
              rw [blen] at k3
              have HX2 : Hid ((if l.length + (3 + k) ≤ all then Im.lensP ns r.s.data.toList all f p2 (l ++ List.replicate (3 + k) (l.getLastD 0)) else .error 90) = X) := by
                have := HX'.out
                rw [if_pos rfl, if_neg hnil, hk] at this; exact this
              have a1 : IntKind.i64.wrap (3 + (k : Int)) = 3 + (k : Int) := IntWalk.i64_in _ (by omega)
              have hk2 := Lib.hid k2
              clear HX' hk k2 hv hnil
              generalize l.getLastD 0 = what at *
              generalize l.length - 1 = lk at *
              go_wp2_with (go_at_call 71; refine (must_yes _ _).mono ?_; rintro e w' ⟨rfl, rfl⟩)
              go_region_with ((go_at_call 57; refine (HB _ hR1.drew).mono ?_; rintro o w2 ⟨rfl, hR2, hf2⟩; have hf3 := (Fr.refl (· = R) w1).drew.trans hf2; have hcl2 := (hf3.cell (p := ⟨g, lk, none⟩) hglt hgR).trans hcl))
              all_goals (go_wp2_with fail; go_meet; exact ⟨3 + k, what, p2, by go_num, rfl, by omega, by omega, k3, hR2, hf1.trans hf3, hrow1.fr hR1 hf3, HX2⟩)
          by_cases h17 : x = 17
          · subst h17
            have HB := bits_moves R { r with bit := (p1 : Int) } p1 3 w1 hR1 rfl (by omega) x3 hs
            cases hk : Im.bitsP r.s.data.toList p1 3 with
            | error e =>
              simp only [hk] at HB
              have HX2 : Hid (.error e = X) := by
                have := HX'.out
                rw [if_neg (by decide), if_pos rfl] at this
                rw [hk] at this; exact this
              clear HX' hk
              go_wp2_with (go_at_call 57; refine HB.mono ?_; rintro o w2 ⟨he, hf2⟩; unfold stopped at he; subst he)
              exact ⟨rfl, LensPost.stops HX2.out (hf1.trans hf2)⟩
            | ok v =>
              obtain ⟨k, p2⟩ := v
              simp only [hk] at HB
              obtain ⟨k1, k2, k3⟩ := Im.bitsP_ok hk
              rw [blen] at k3
              have HX2 : Hid ((if l.length + (3 + k) ≤ all then Im.lensP ns r.s.data.toList all f p2 (l ++ List.replicate (3 + k) 0) else .error 90) = X) := by
                have := HX'.out
                rw [if_neg (by decide), if_pos rfl] at this
                rw [hk] at this; exact this
              have a1 : IntKind.i64.wrap (3 + (k : Int)) = 3 + (k : Int) := IntWalk.i64_in _ (by omega)
              have hk2 := Lib.hid k2
              clear HX' hk k2
              go_wp2_with (go_at_call 57; refine HB.mono ?_; rintro o w2 ⟨rfl, hR2, hf2⟩)
              go_meet
              exact ⟨3 + k, 0, p2, by go_num, rfl, by omega, by omega, k3, hR2, hf1.trans hf2, hrow1.fr hR1 hf2, HX2⟩
          by_cases h18 : x = 18
          · subst h18
            have HB := bits_moves R { r with bit := (p1 : Int) } p1 7 w1 hR1 rfl (by omega) x3 hs
            cases hk : Im.bitsP r.s.data.toList p1 7 with
            | error e =>
              simp only [hk] at HB
              have HX2 : Hid (.error e = X) := by
                have := HX'.out
                rw [if_neg (by decide), if_neg (by decide), if_pos rfl] at this
                rw [hk] at this; exact this
              clear HX' hk
              go_wp2_with (go_at_call 57; refine HB.mono ?_; rintro o w2 ⟨he, hf2⟩; unfold stopped at he; subst he)
              exact ⟨rfl, LensPost.stops HX2.out (hf1.trans hf2)⟩
            | ok v =>
              obtain ⟨k, p2⟩ := v
              simp only [hk] at HB
              obtain ⟨k1, k2, k3⟩ := Im.bitsP_ok hk
              rw [blen] at k3
              have HX2 : Hid ((if l.length + (11 + k) ≤ all then Im.lensP ns r.s.data.toList all f p2 (l ++ List.replicate (11 + k) 0) else .error 90) = X) := by
                have := HX'.out
                rw [if_neg (by decide), if_neg (by decide), if_pos rfl] at this
                rw [hk] at this; exact this
              have a1 : IntKind.i64.wrap (11 + (k : Int)) = 11 + (k : Int) := IntWalk.i64_in _ (by omega)
              have hk2 := Lib.hid k2
              clear HX' hk k2
              go_wp2_with (go_at_call 57; refine HB.mono ?_; rintro o w2 ⟨rfl, hR2, hf2⟩)
              go_meet
              exact ⟨11 + k, 0, p2, by go_num, rfl, by omega, by omega, k3, hR2, hf1.trans hf2, hrow1.fr hR1 hf2, HX2⟩
          have q1 : ((x : Int) == 16) = false := by simp; omega
          have q2 : ((x : Int) == 17) = false := by simp; omega
          have q3 : ((x : Int) == 18) = false := by simp; omega
          have HX2 : Hid ((if l.length + 1 ≤ all then Im.lensP ns r.s.data.toList all f p1 (l ++ List.replicate 1 x) else .error 90) = X) := by
            have := HX'.out
            rw [if_neg h16, if_neg h17, if_neg h18] at this
            rw [if_pos (by omega)]; exact this
          clear HX' h16 h17 h18
          go_wp2_with fail
          go_meet
          exact ⟨1, x, p1, rfl, rfl, by omega, by omega, x3, hR1, hf1, hrow1, HX2⟩
        case rest =>
          obtain ⟨many, what, p2, rfl, rfl, hm, hm1, hp2, hR2, hf2, hrow2, HX2⟩ := hcut
          clear HX' hR1 hf1 hrow1 x1 x2 x3 hv
          have hrow3 : IRow wc w.heap.size (.slice a0 l.length cap) (l ++ List.replicate 0 what) := by rw [List.replicate_zero, List.append_nil]; exact hrow2
          go_wp2
          go_loopg [7, 46] many (fun g v i wr => ∃ k : Nat, g + k = many ∧ i = .int .i64 (k : Int) ∧ IRow wr w.heap.size v (l ++ List.replicate k what) ∧ RdAt wr R { r with bit := (p2 : Int) } ∧ Fr (· = R) w wr)
          case atStart => exact ⟨0, by omega, rfl, hrow3, hR2, hf2⟩
          case round =>
            clear hrow3 hR2 hf2 hrow2
            obtain ⟨k, hgk, rfl, hrow, hR2, hf2⟩ := hrel
            obtain ⟨a1, cap1, ev1, hv⟩ := hrow.slice
            have hlen : (l ++ List.replicate k what).length = l.length + k := by simp
            by_cases hkm : k < many
            · have q1 : decide ((k : Int) < (many : Int)) = true := by simp; omega
              have q1' : decide (k < many) = true := by simp; omega
              subst ev1
              have hbase : w.heap.size ≤ wr.heap.size := hf2.size
              have HOA : Hid (IRow (wr.alloc (.cells #[.int .i64 (what : Int)] 3)) w.heap.size (.slice a1 (l ++ List.replicate k what).length cap1) (l ++ List.replicate k what)) := World.ownsRow.alloc hrow _
              have HL := Lib.hid hlen
              have HNX : Hid (l ++ List.replicate (k + 1) what = l ++ List.replicate k what ++ [what]) := by unfold Hid; rw [List.replicate_succ', List.append_assoc]
              have hgk' := Lib.hid hgk
              clear hlen hgk
              generalize hll : l ++ List.replicate k what = ll at *
              clear hll
              go_wp2_with (at_builtin; refine wpList_append_own _ rfl _ _ 32 rfl w.heap.size 3 i0 (.int .i64 0) 1 8 Try.underlying32 hi hz0 hz1 hz2 rfl (by decide) (.slice a1 ll.length cap1) ll.length (nvals ll) rfl HOA.out ⟨wr.heap.size, 0, none⟩ 1 1 (nvals [what]) rfl rfl ?c1 ?c2 ?c3 ?c4 ?c5 ?_)
              case c1 => exact new_ints _ _ _ _ rfl
              case c2 => exact nvals_one' _
              case c3 => have := HL.out; unfold maxLen; omega
              case c4 => have := HL.out; omega
              case c5 => simp; omega
              intro v' w1 hown' hgrow _
              have hA := HOA.out
              have hR3 := (hR2.alloc _).grownInts hA hgrow
              have hf3 : Fr (· = R) w w1 := (hf2.alloc _).grown hgrow fun k hk => Or.inr (hA.row k hk).1
              have hrow3 : IRow w1 w.heap.size v' (l ++ List.replicate (k + 1) what) := by
                rw [HNX.out]; unfold IRow; rw [nvals_append, List.length_append]; exact hown'
              clear hown' hgrow hA HOA hrow hR2 hf2
              go_wp2
              go_roundg (gk - 1)
              case measure => have := hgk'.out; omega
              case rel => exact ⟨k + 1, by have := hgk'.out; omega, by go_num, hrow3, hR3, hf3⟩
            · obtain rfl : k = many := by omega
              have q1 : decide ((k : Int) < (k : Int)) = false := by simp
              subst ev1
              have HL := Lib.hid hlen
              clear hgk hv
              by_cases hfit : l.length + k ≤ all
              · have HX3 : Hid (Im.lensP ns r.s.data.toList all f p2 (l ++ List.replicate k what) = X) := by have := HX2.out; rw [if_pos hfit] at this; exact this
                have q2 : decide (((l ++ List.replicate k what).length : Int) ≤ (all : Int)) = true := by simp; omega
                have q2' : decide ((l ++ List.replicate k what).length ≤ all) = true := by simp; omega
                clear hlen HX2
                generalize l ++ List.replicate k what = ll at *
                go_wp2_with (go_at_call 71; refine (must_yes _ _).mono ?_; rintro e w' ⟨rfl, rfl⟩)
                go_roundg f
                case measure => omega
                case rel => exact ⟨ll, p2, hrow, by have := HL.out; omega, by have := HL.out; omega, hR2, hp2, hf2, HX3⟩
              · have HX3 : Hid (.error 90 = X) := by have := HX2.out; rw [if_neg hfit] at this; exact this
                have q2 : decide (((l ++ List.replicate k what).length : Int) ≤ (all : Int)) = false := by simp; omega
                have q2' : decide ((l ++ List.replicate k what).length ≤ all) = false := by simp; omega
                clear hlen HX2
                generalize l ++ List.replicate k what = ll at *
                go_wp2_with (go_at_call 71; refine (must_no _ _).mono ?_; rintro e w' ⟨he, rfl⟩; unfold stopped at he; subst he)
                exact ⟨rfl, LensPost.stops HX3.out hf2⟩
    · have q0 : decide ((l.length : Int) < (all : Int)) = false := by simp; omega
      have q0' : decide (l.length < all) = false := by simp; omega
      have HX' : Hid (.ok (l, p) = X) := by have := HX.out; rw [Im.lensP, if_neg hlt] at this; exact this
      clear HX hla hfa hlt hv
      have HP := Lib.hid (LensPost.ends HX'.out hrow hRk hfk)
      generalize l.length = n at *
      clear HX' hrow
      go_wp2
      go_ret
      exact HP.out
end Go.Proofs.Ytcjcmlnbchmnnaa
