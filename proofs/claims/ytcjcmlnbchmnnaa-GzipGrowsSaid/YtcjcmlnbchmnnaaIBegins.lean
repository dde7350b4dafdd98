/- (*inflate.Reader).begins: its contract by the model. -/
import Derived.Test.YtcjcmlnbchmnnaaITables
import Derived.Test.YtcjcmlnbchmnnaaImE
namespace Go.Proofs.Ytcjcmlnbchmnnaa
open Go.RowKit

/-- what begins has come to: the Reader's plain cells by the model, and its tables where it has any -/
def BegPost (R : Nat) (r : Rd) (w : World) (x : Except Int Im.St) (o : Ending) (w' : World) : Prop :=
  match x with
  | .ok a => o = .returned (.tuple #[]) ∧ (∃ lit dist, RdAt w' R { r with bit := (a.pos : Int), state := (a.state : Int), last := a.last, left := (a.left : Int), lit := lit, dist := dist } ∧ (a.state = 2 → (∃ T D, lit = .pointer (some ⟨T, 0, none⟩) ∧ dist = .pointer (some ⟨D, 0, none⟩) ∧ TableAt w' T a.lit ∧ TableAt w' D a.dist)) ∧ (a.state ≠ 2 → lit = r.lit ∧ dist = r.dist)) ∧ Fr (· = R) w w'
  | .error e => o = stopped e ∧ Fr (· = R) w w'
theorem BegPost.stops {R : Nat} {r : Rd} {w : World} {X : Except Int Im.St} {e : Int} (hX : .error e = X) {w' : World} (hf : Fr (· = R) w w') : BegPost R r w X (stopped e) w' := by subst hX; exact ⟨rfl, hf⟩
theorem BegPost.plain {R : Nat} {r : Rd} {w : World} {X : Except Int Im.St} {a : Im.St} (hX : .ok a = X) {w' : World} (h2 : a.state ≠ 2) (hR : RdAt w' R { r with bit := (a.pos : Int), state := (a.state : Int), last := a.last, left := (a.left : Int) }) (hf : Fr (· = R) w w') : BegPost R r w X (.returned (.tuple #[])) w' := by
  subst hX; exact ⟨rfl, ⟨r.lit, r.dist, hR, fun e => absurd e h2, fun _ => ⟨rfl, rfl⟩⟩, hf⟩
theorem BegPost.tabs {R : Nat} {r : Rd} {w : World} {X : Except Int Im.St} {a : Im.St} (hX : .ok a = X) {T D : Nat} {w' : World} (h2 : a.state = 2) (hR : RdAt w' R { r with bit := (a.pos : Int), state := (a.state : Int), last := a.last, left := (a.left : Int), lit := .pointer (some ⟨T, 0, none⟩), dist := .pointer (some ⟨D, 0, none⟩) }) (h1 : TableAt w' T a.lit) (h3 : TableAt w' D a.dist) (hf : Fr (· = R) w w') : BegPost R r w X (.returned (.tuple #[])) w' := by
  subst hX; exact ⟨rfl, ⟨_, _, hR, fun _ => ⟨T, D, rfl, rfl, h1, h3⟩, fun e => absurd h2 e⟩, hf⟩
theorem row_ne {w : World} {R : Nat} {r : Rd} {g n : Nat} {f : Nat → Value} (h : RdAt w R r) (hr : w.rowIs g 3 n f) : g ≠ R := by
  rintro rfl
  obtain ⟨c, q, _⟩ := hr
  unfold RdAt at h
  rw [q] at h; injection h with h; injection h with _ e; exact absurd e (by decide)
set_option maxRecDepth 100000 in
set_option maxHeartbeats 4000000 in
theorem begins_model (R : Nat) (r : Rd) (a : Im.St) (w : World) (hR : RdAt w R r) (hp : r.bit = a.pos) (hlf : r.left = a.left) (hpos : a.pos ≤ 8 * r.s.size) (hs : r.s.size ≤ 281474976710656) :
    Calls Try.prog 55 #[.pointer (some ⟨R, 0, none⟩)] w (BegPost R r w (Im.begP r.s.data.toList a)) := by
  have hX : Im.begP r.s.data.toList a = Im.begP r.s.data.toList a := rfl
  generalize hX0 : Im.begP r.s.data.toList a = X at *
  have HX := Lib.hid hX0
  clear hX hX0
  have HB1 := bits_moves R r a.pos 1 w hR hp (by omega) hpos hs
  cases h1 : Im.bitsP r.s.data.toList a.pos 1 with
  | error e =>
    rw [h1] at HB1
    have HX1 : Hid (.error e = X) := by have := HX.out; unfold Im.begP at this; rw [h1] at this; exact this
    clear HX h1
    go_enter Try.func55, Try.ntmps55
    go_wp2_with (go_at_call 57; refine HB1.mono ?_; rintro o w2 ⟨he, hf2⟩; unfold stopped at he; subst he)
    exact ⟨rfl, BegPost.stops HX1.out hf2⟩
  | ok v =>
  obtain ⟨b, p1⟩ := v
  rw [h1] at HB1
  obtain ⟨l1, l2, l3⟩ := Im.bitsP_ok h1
  rw [blen] at l3
  have hb01 : b = 0 ∨ b = 1 := by omega
  have HX1 := HX.out
  unfold Im.begP at HX1
  rw [h1] at HX1
  dsimp only at HX1
  clear HX h1 l2
  have hbb : ((b : Int) == 1) = (b == 1) := by rcases hb01 with rfl | rfl <;> rfl
  generalize (b == 1) = bl at *
  -- the Reader behind the first bit
  have HRa : ∀ w1, RdAt w1 R { r with bit := (p1 : Int) } → RdAt (w1.setCell ⟨R, 3, none⟩ (.bool bl)) R { r with bit := (p1 : Int), last := bl } := fun w1 h => h.set 3 _ rfl
  have HB2 := fun w' hR' => bits_moves R { r with bit := (p1 : Int), last := bl } p1 2 w' hR' rfl (by omega) l3 hs
  cases h2 : Im.bitsP r.s.data.toList p1 2 with
  | error e =>
    have HX2 : Hid (.error e = X) := by rw [h2] at HX1; exact HX1
    simp only [h2] at HB2
    clear HX1 h2
    go_enter Try.func55, Try.ntmps55
    go_wp2_with (first | (go_at_call 57; refine HB1.mono ?_; rintro o w1 ⟨rfl, hR1, hf1⟩; clear HB1; have f3 := hR1.frozen 3; have c3 := hR1.last) | (go_at_call 57; refine (HB2 _ (HRa _ hR1)).mono ?_; rintro o w2 ⟨he, hf2⟩; unfold stopped at he; subst he))
    exact ⟨rfl, BegPost.stops HX2.out ((hf1.setCell (p := ⟨R, 3, none⟩) (Or.inl rfl) _).trans hf2)⟩
  | ok v =>
  obtain ⟨k, p2⟩ := v
  simp only [h2] at HB2
  rw [h2] at HX1
  dsimp only at HX1
  obtain ⟨k1, k2, k3⟩ := Im.bitsP_ok h2
  rw [blen] at k3
  clear h2 k2
  by_cases c0 : k = 0
  · rw [if_pos c0] at HX1
    have q0 : ((k : Int) == 0) = true := by subst c0; rfl
    have hal : (p2 + 7) / 8 * 8 ≤ 8 * r.s.size := by omega
    have a1 : IntKind.i64.wrap ((p2 : Int) + 7) = ((p2 + 7 : Nat) : Int) := by rw [IntWalk.i64_in _ (by omega)]; omega
    have a2 : IntKind.i64.wrap (((p2 + 7 : Nat) : Int) / 8) = ((p2 + 7 : Nat) : Int) / 8 := IntWalk.i64_in _ (by omega)
    have a3 : IntKind.i64.wrap (((p2 + 7 : Nat) : Int) / 8 * 8) = (((p2 + 7) / 8 * 8 : Nat) : Int) := by rw [IntWalk.i64_in _ (by omega)]; omega
    have HRb : ∀ w1, RdAt w1 R { r with bit := (p2 : Int), last := bl } → RdAt (w1.setCell ⟨R, 1, none⟩ (.int .i64 (((p2 + 7) / 8 * 8 : Nat) : Int))) R { r with bit := (((p2 + 7) / 8 * 8 : Nat) : Int), last := bl } := fun w1 h => h.set 1 _ rfl
    generalize (p2 + 7) / 8 * 8 = pa at *
    generalize p2 + 7 = p7 at *
    have HB3 := fun w' hR' => bits_moves R { r with bit := (pa : Int), last := bl } pa 16 w' hR' rfl (by omega) hal hs
    cases h3 : Im.bitsP r.s.data.toList pa 16 with
    | error e =>
      have HX2 : Hid (.error e = X) := by rw [h3] at HX1; exact HX1
      simp only [h3] at HB3
      clear HX1 h3 c0
      go_enter Try.func55, Try.ntmps55
      go_wp2_with (first | (go_at_call 57; refine HB1.mono ?_; rintro o w1 ⟨rfl, hR1, hf1⟩; clear HB1; have f3 := hR1.frozen 3; have c3 := hR1.last) | (go_at_call 57; refine (HB2 _ (HRa _ hR1)).mono ?_; rintro o w2 ⟨rfl, hR2, hf2⟩; clear HB2; have f1 := hR2.frozen 1; have c1 := hR2.bit) | (go_at_call 57; refine (HB3 _ (HRb _ hR2)).mono ?_; rintro o w3 ⟨he, hf3⟩; unfold stopped at he; subst he))
      exact ⟨rfl, BegPost.stops HX2.out ((((hf1.setCell (p := ⟨R, 3, none⟩) (Or.inl rfl) _).trans hf2).setCell (p := ⟨R, 1, none⟩) (Or.inl rfl) _).trans hf3)⟩
    | ok v =>
    obtain ⟨n, p3⟩ := v
    simp only [h3] at HB3
    rw [h3] at HX1
    dsimp only at HX1
    obtain ⟨n1, n2, n3⟩ := Im.bitsP_ok h3
    rw [blen] at n3
    clear h3 n2
    have HB4 := fun w' hR' => bits_moves R { r with bit := (p3 : Int), last := bl } p3 16 w' hR' rfl (by omega) n3 hs
    cases h4 : Im.bitsP r.s.data.toList p3 16 with
    | error e =>
      have HX2 : Hid (.error e = X) := by rw [h4] at HX1; exact HX1
      simp only [h4] at HB4
      clear HX1 h4 c0
      go_enter Try.func55, Try.ntmps55
      go_wp2_with (first | (go_at_call 57; refine HB1.mono ?_; rintro o w1 ⟨rfl, hR1, hf1⟩; clear HB1; have f3 := hR1.frozen 3; have c3 := hR1.last) | (go_at_call 57; refine (HB2 _ (HRa _ hR1)).mono ?_; rintro o w2 ⟨rfl, hR2, hf2⟩; clear HB2; have f1 := hR2.frozen 1; have c1 := hR2.bit) | (go_at_call 57; refine (HB3 _ (HRb _ hR2)).mono ?_; rintro o w3 ⟨rfl, hR3, hf3⟩; clear HB3) | (go_at_call 57; refine (HB4 _ hR3).mono ?_; rintro o w4 ⟨he, hf4⟩; unfold stopped at he; subst he))
      exact ⟨rfl, BegPost.stops HX2.out (((((hf1.setCell (p := ⟨R, 3, none⟩) (Or.inl rfl) _).trans hf2).setCell (p := ⟨R, 1, none⟩) (Or.inl rfl) _).trans hf3).trans hf4)⟩
    | ok v =>
    obtain ⟨m, p4⟩ := v
    simp only [h4] at HB4
    rw [h4] at HX1
    dsimp only at HX1
    obtain ⟨m1, m2, m3⟩ := Im.bitsP_ok h4
    rw [blen] at m3
    clear h4 m2
    have a4 : IntKind.i64.wrap ((n : Int) + (m : Int)) = (n : Int) + (m : Int) := IntWalk.i64_in _ (by omega)
    by_cases c5 : n + m = 65535
    · rw [if_pos c5] at HX1
      have HX2 := Lib.hid HX1
      have q5 : ((n : Int) + (m : Int) == 65535) = true := by simp; omega
      clear HX1 c0 c5
      go_enter Try.func55, Try.ntmps55
      go_wp2_with (first | (go_at_call 57; refine HB1.mono ?_; rintro o w1 ⟨rfl, hR1, hf1⟩; clear HB1; have f3 := hR1.frozen 3; have c3 := hR1.last) | (go_at_call 57; refine (HB2 _ (HRa _ hR1)).mono ?_; rintro o w2 ⟨rfl, hR2, hf2⟩; clear HB2; have f1 := hR2.frozen 1; have c1 := hR2.bit) | (go_at_call 57; refine (HB3 _ (HRb _ hR2)).mono ?_; rintro o w3 ⟨rfl, hR3, hf3⟩; clear HB3) | (go_at_call 57; refine (HB4 _ hR3).mono ?_; rintro o w4 ⟨rfl, hR4, hf4⟩; clear HB4; have f2 := hR4.frozen 2; have f4 := hR4.frozen 4; have c2 := hR4.state; have c4 := hR4.left) | (go_at_call 71; refine (must_yes _ _).mono ?_; rintro e w' ⟨rfl, rfl⟩))
      have hf5 := ((((((hf1.setCell (p := ⟨R, 3, none⟩) (Or.inl rfl) (.bool bl)).trans hf2).setCell (p := ⟨R, 1, none⟩) (Or.inl rfl) (.int .i64 (pa : Int))).trans hf3).trans hf4).setCell (p := ⟨R, 4, none⟩) (Or.inl rfl) (.int .i64 (n : Int))).setCell (p := ⟨R, 2, none⟩) (Or.inl rfl) (.int .i64 1)
      have hR5 : RdAt (w4.setCell ⟨R, 4, none⟩ (.int .i64 (n : Int))) R { r with bit := (p4 : Int), last := bl, left := (n : Int) } := hR4.set 4 _ rfl
      have hR6 : RdAt ((w4.setCell ⟨R, 4, none⟩ (.int .i64 (n : Int))).setCell ⟨R, 2, none⟩ (.int .i64 1)) R { r with bit := (p4 : Int), last := bl, left := (n : Int), state := 1 } := hR5.set 2 _ rfl
      go_end0
      exact BegPost.plain HX2.out (by simp) hR6 hf5
    · rw [if_neg c5] at HX1
      have HX2 := Lib.hid HX1
      have q5 : ((n : Int) + (m : Int) == 65535) = false := by simp; omega
      clear HX1 c0 c5
      go_enter Try.func55, Try.ntmps55
      go_wp2_with (first | (go_at_call 57; refine HB1.mono ?_; rintro o w1 ⟨rfl, hR1, hf1⟩; clear HB1; have f3 := hR1.frozen 3; have c3 := hR1.last) | (go_at_call 57; refine (HB2 _ (HRa _ hR1)).mono ?_; rintro o w2 ⟨rfl, hR2, hf2⟩; clear HB2; have f1 := hR2.frozen 1; have c1 := hR2.bit) | (go_at_call 57; refine (HB3 _ (HRb _ hR2)).mono ?_; rintro o w3 ⟨rfl, hR3, hf3⟩; clear HB3) | (go_at_call 57; refine (HB4 _ hR3).mono ?_; rintro o w4 ⟨rfl, hR4, hf4⟩; clear HB4) | (go_at_call 71; refine (must_no _ _).mono ?_; rintro e w' ⟨he, rfl⟩; unfold stopped at he; subst he))
      exact ⟨rfl, BegPost.stops HX2.out (((((hf1.setCell (p := ⟨R, 3, none⟩) (Or.inl rfl) _).trans hf2).setCell (p := ⟨R, 1, none⟩) (Or.inl rfl) _).trans hf3).trans hf4)⟩
  rw [if_neg c0] at HX1
  have q0 : ((k : Int) == 0) = false := by simp; omega
  by_cases c1 : k = 1
  · rw [if_pos c1] at HX1
    have q1 : ((k : Int) == 1) = true := by subst c1; rfl
    have HX2 := Lib.hid HX1
    have HF := Lib.hid (fun w => fixed_in w)
    clear HX1 c0 c1
    go_enter Try.func55, Try.ntmps55
    go_wp2_with (first | (go_at_call 57; refine HB1.mono ?_; rintro o w1 ⟨rfl, hR1, hf1⟩; clear HB1; have f3 := hR1.frozen 3; have c3 := hR1.last) | (go_at_call 57; refine (HB2 _ (HRa _ hR1)).mono ?_; rintro o w2 ⟨rfl, hR2, hf2⟩; clear HB2) | (go_at_call 72; refine (HF.out _).mono ?_; rintro e w3 ⟨g1, g2, rfl, hr1, hr2, hb3⟩; clear HF))
    have hR3 := hR2.below hb3
    have hf3 := ((hf1.setCell (p := ⟨R, 3, none⟩) (Or.inl rfl) (.bool bl)).trans hf2).below hb3
    clear hR1 hf1 hR2 hf2 hb3 f3 c3
    have hn1 := row_ne hR3 hr1
    have hn2 := row_ne hR3 hr2
    have HT1 : ∀ w1, Fr (· = R) w3 w1 → Hid (Calls Try.prog 73 #[.slice (some ⟨g1, 0, none⟩) 288 288] w1 (TableIn Im.fixLit w1)) := fun w1 hf => by
      have := table_yes (some ⟨g1, 0, none⟩) 288 Im.fixLit w1 (row_sints (by rw [Im.fixLit_length]; exact rowFr hr1 hf hn1)) Im.fixLit_short (by rw [Im.fixLit_length]; omega) Im.fixLit_err (Im.err_share Im.fixLit_err)
      rw [Im.fixLit_length] at this; exact this
    have HT2 : ∀ w1, Fr (· = R) w3 w1 → Hid (Calls Try.prog 73 #[.slice (some ⟨g2, 0, none⟩) 32 32] w1 (TableIn Im.fixDist w1)) := fun w1 hf => by
      have := table_yes (some ⟨g2, 0, none⟩) 32 Im.fixDist w1 (row_sints (by rw [Im.fixDist_length]; exact rowFr hr2 hf hn2)) Im.fixDist_short (by rw [Im.fixDist_length]; omega) Im.fixDist_err (Im.err_share Im.fixDist_err)
      rw [Im.fixDist_length] at this; exact this
    have HB5 := Lib.hid (Bun.start hR3 hf3)
    clear hr1 hr2 hn1 hn2
    generalize Im.fixLit = fl0 at *
    generalize Im.fixDist = fd0 at *
    go_wp2_with (first | (go_at_call 73; refine (HT1 _ (Fr.refl _ w3)).out.mono ?_; rintro e w6 ⟨T1, hT1, rfl, hta1, hb6⟩; clear HT1) | (go_at_call 73; refine (HT2 _ ((Fr.refl _ w3).below hb6)).out.mono ?_; rintro e w7 ⟨T2, hT2, rfl, hta2, hb7⟩; clear HT2; have hR7 := (hR3.below hb6).below hb7; have k2 := hR7.frozen 2; have k5 := hR7.frozen 5; have k6 := hR7.frozen 6; have k2' := hR7.state; have k5' := hR7.lit; have k6' := hR7.dist))
    have HB7 := (HB5.out.below hb6).below hb7
    have HB6 := HB5.out.below hb6
    have HB8 := ((HB7.set (i := 5) (v := .pointer (some ⟨T1, 0, none⟩))).set (i := 6) (v := .pointer (some ⟨T2, 0, none⟩))).set (i := 2) (v := .int .i64 2)
    have hf8 := (((Fr.refl (· = R) w7).setCell (p := ⟨R, 5, none⟩) (Or.inl rfl) (.pointer (some ⟨T1, 0, none⟩))).setCell (p := ⟨R, 6, none⟩) (Or.inl rfl) (.pointer (some ⟨T2, 0, none⟩))).setCell (p := ⟨R, 2, none⟩) (Or.inl rfl) (.int .i64 2)
    have hf7 := ((Fr.refl (· = R) w6).below hb7).trans hf8
    go_end0
    exact BegPost.tabs HX2.out rfl (HB8.rd (by simp [ups, Rd.cells, hlf])) (Bun.table hta1 HB6 hf7) (Bun.table hta2 HB7 hf8) HB8.fr
  rw [if_neg c1] at HX1
  have q1 : ((k : Int) == 1) = false := by simp; omega
  by_cases c2 : k = 2
  · rw [if_pos c2] at HX1
    have q2 : ((k : Int) == 2) = true := by subst c2; rfl
    have HX2 := Lib.hid HX1
    have HT := fun w' hR' => tables_model R { r with bit := (p2 : Int), last := bl } { a with pos := p2, last := bl } w' hR' rfl k3 hs
    cases htx : Im.tabsP r.s.data.toList { a with pos := p2, last := bl } with
    | error e =>
      have HX3 : Hid (.error e = X) := by have := HX2.out; rw [htx] at this; exact this
      simp only [htx] at HT
      clear HX1 HX2 htx c0 c1 c2
      go_enter Try.func55, Try.ntmps55
      go_wp2_with (first | (go_at_call 57; refine HB1.mono ?_; rintro o w1 ⟨rfl, hR1, hf1⟩; clear HB1; have f3 := hR1.frozen 3; have c3 := hR1.last) | (go_at_call 57; refine (HB2 _ (HRa _ hR1)).mono ?_; rintro o w2 ⟨rfl, hR2, hf2⟩; clear HB2) | (go_at_call 74; refine (HT _ hR2).mono ?_; rintro o w3 ⟨he, hf3⟩; unfold stopped at he; subst he))
      exact ⟨rfl, BegPost.stops HX3.out (((hf1.setCell (p := ⟨R, 3, none⟩) (Or.inl rfl) _).trans hf2).trans hf3)⟩
    | ok a' =>
      have HX3 : Hid (.ok a' = X) := by have := HX2.out; rw [htx] at this; exact this
      simp only [htx] at HT
      obtain ⟨t1, t2, t3, t4, t5, t6⟩ := Im.tabsP_went htx
      dsimp only at t2 t4 t5 t6
      replace t3 := Lib.hid t3
      replace t4 := Lib.hid t4
      replace t5 := Lib.hid t5
      replace t6 := Lib.hid t6
      clear HX1 HX2 htx c0 c1 c2
      go_enter Try.func55, Try.ntmps55
      go_wp2_with (first | (go_at_call 57; refine HB1.mono ?_; rintro o w1 ⟨rfl, hR1, hf1⟩; clear HB1; have f3 := hR1.frozen 3; have c3 := hR1.last) | (go_at_call 57; refine (HB2 _ (HRa _ hR1)).mono ?_; rintro o w2 ⟨rfl, hR2, hf2⟩; clear HB2) | (go_at_call 74; refine (HT _ hR2).mono ?_; rintro o w3 ⟨rfl, ⟨T, D, hR3, hta, htb⟩, hf3⟩))
      go_end0
      refine BegPost.tabs HX3.out (T := T) (D := D) t3.out ?_ hta htb (((hf1.setCell (p := ⟨R, 3, none⟩) (Or.inl rfl) _).trans hf2).trans hf3)
      rw [t3.out, t5.out, t6.out]
      rw [← hlf]
      exact hR3
  rw [if_neg c2] at HX1
  have q2 : ((k : Int) == 2) = false := by simp; omega
  have HX2 := Lib.hid HX1
  clear HX1 c0 c1 c2
  go_enter Try.func55, Try.ntmps55
  go_wp2_with (first | (go_at_call 57; refine HB1.mono ?_; rintro o w1 ⟨rfl, hR1, hf1⟩; clear HB1; have f3 := hR1.frozen 3; have c3 := hR1.last) | (go_at_call 57; refine (HB2 _ (HRa _ hR1)).mono ?_; rintro o w2 ⟨rfl, hR2, hf2⟩; clear HB2) | (go_at_call 71; refine (must_no _ _).mono ?_; rintro e w' ⟨he, rfl⟩; unfold stopped at he; subst he))
  exact ⟨rfl, BegPost.stops HX2.out ((hf1.setCell (p := ⟨R, 3, none⟩) (Or.inl rfl) _).trans hf2)⟩
end Go.Proofs.Ytcjcmlnbchmnnaa
