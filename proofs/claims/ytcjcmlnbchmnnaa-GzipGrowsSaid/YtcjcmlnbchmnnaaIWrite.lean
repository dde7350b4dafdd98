/- (*inflate.Reader).Write: its contract by the model. -/
import Derived.Test.YtcjcmlnbchmnnaaIStep
import Derived.Test.YtcjcmlnbchmnnaaRd
import Derived.Test.YtcjcmlnbchmnnaaIAhead
import Derived.Test.YtcjcmlnbchmnnaaImE
import Derived.BigRegion
namespace Go.Proofs.Ytcjcmlnbchmnnaa
open Go.RowKit

/-- a Reader between its Writes, in the model's state a: all that was told is a.out -/
structure Rests (w : World) (R : Nat) (r : Rd) (most : Nat) (a : Im.St) : Prop where
  st : StOne w R w.heap.size r a.out most a
  out : r.out = .slice none 0 0
/-- what Write comes to, by a run of the model -/
def Wrote (R : Nat) (r : Rd) (most : Nat) (w : World) (S : List UInt8) (a b : Im.St) (e : Int) (o : Ending) (w' : World) : Prop :=
  (e ≠ 0 ∧ o = .returned (.tuple #[.string ⟨#[]⟩, .int .i64 e]) ∧ (∃ r', RdAt w' R r' ∧ r'.e = e) ∧ Fr (· = R) w w') ∨
  (e = 0 ∧ o = .returned (.tuple #[.string ⟨(b.out.drop a.out.length).toArray⟩, .int .i64 0]) ∧ (∃ r', Rests w' R r' most { b with pos := b.pos % 8 } ∧ r'.s.data.toList = S.drop (b.pos / 8) ∧ (∀ k, r'.back.ownBlock = some k → w.heap.size ≤ k)) ∧ Fr (fun k => k = R ∨ r.back.ownBlock = some k) w w')
theorem write_bad (R : Nat) (r : Rd) (s : ByteArray) (w : World) (hR : RdAt w R r) (he : r.e ≠ 0) :
    Calls Try.prog 29 #[.pointer (some ⟨R, 0, none⟩), .string s] w fun o w' => o = .returned (.tuple #[.string ⟨#[]⟩, .int .i64 r.e]) ∧ Below w.heap.size w w' := by
  have c11 := hR.e
  have q : (r.e != 0) = true := by simpa using he
  clear he hR
  go_enter Try.func29, Try.ntmps29
  go_wp2
  go_region
  all_goals
    go_wp2
    go_ret2
    exact ⟨rfl, (Below.refl _ w).drew⟩
/-- where the loop has come to -/
def Came (R : Nat) (r : Rd) (S : ByteArray) (most : Nat) (w : World) (a : Im.St) (f : Int) (wx : World) : Prop :=
  ∃ b r', StOne wx R w.heap.size r' a.out most b ∧ (r'.s, r'.back) = (S, r.back) ∧ Grew R w.heap.size w wx ∧ Im.Run S.data.toList most a b f
theorem lastN_app (n : Nat) (a o : List UInt8) : lastN n (lastN n a ++ o) = lastN n (a ++ o) := by
  unfold lastN
  rw [List.length_append, List.length_drop, List.length_append]
  by_cases h : n ≤ a.length
  · have e : a.drop (a.length - n) ++ o = (a ++ o).drop (a.length - n) := (List.drop_append_of_le_length (by omega)).symm
    rw [e, List.drop_drop]
    congr 1
    omega
  · rw [show a.length - n = 0 by omega, List.drop_zero, Nat.sub_zero]
theorem Fr.grownB {S : Nat → Prop} {a b c : World} {v : Value} {l : List UInt8} {B : Nat} (h : Fr S a b) (ho : OutAt b B v l) (g : b.grownBy c v.ownBlock) (hr : ∀ k, v.ownBlock = some k → S k ∨ a.heap.size ≤ k) : Fr S a c :=
  ⟨g.os.trans h.os, g.tape.trans h.tape, g.output.trans h.output, Nat.le_trans h.size g.size, fun i hi hn => by
    rw [g.block i (Nat.lt_of_lt_of_le hi h.size) (by intro e; rcases hr i e.symm with q | q; exact hn q; omega)]; exact h.block i hi hn, fun i q => (h.rd i q).of_block (g.block i (h.rd i q).lt (by
    intro e
    obtain ⟨_, cur, hc⟩ := ho.row i e.symm
    obtain ⟨c', h1, _⟩ := h.rd i q
    rw [hc] at h1
    injection h1 with h1
    injection h1 with _ h1
    exact absurd h1 (by decide)))⟩
/-- the last of a row's bytes, as the slice that reads them -/
theorem back_cut (a1 : Option Addr) (n cap k : Nat) (hk : k ≤ n) (hn : n ≤ cap) (hc : cap ≤ 9223372036854775807) (h0 : a1 = none → n = 0 ∧ cap = 0) (h1 : ∀ p, a1 = some p → ∃ g, p = ⟨g, 0, none⟩) :
    ∃ xv, (∀ w' : World, (Instr.slice 23 (.slice a1 n cap) (some (.int .i64 (k : Int))) none none).run Try.prog w' = .ok xv w') ∧ ∀ (W : World) (B : Nat) (l : List UInt8), OutAt W B (.slice a1 n cap) l → ReadB W xv (l.drop k) := by
  have e0 : Try.prog.elem 23 = 5 := by kernel_rfl
  have e1 : ∀ w' : World, (sizeOf 5).run Try.prog w' = .ok 1 w' := fun _ => by kernel_rfl
  have ek : ((k : Int)).toNat = k := by omega
  have hrun : ∀ w' : World, (Instr.slice 23 (.slice a1 n cap) (some (.int .i64 (k : Int))) none none).run Try.prog w' = .ok (sliced a1 k n cap 1) w' := by
    intro w'
    rw [run_slice_l w' 23 a1 n cap (by rw [e0]; exact Try.underlying23) .i64 (k : Int) (by omega) (by omega), e0, e1, ek]
    simp [Result.andThen]
  refine ⟨_, hrun, fun W B l ho => ?_⟩
  have hl : n = l.length := by obtain ⟨a', c', e, _⟩ := ho.slice; injection e
  cases a1 with
  | none =>
    obtain ⟨rfl, rfl⟩ := h0 rfl
    obtain rfl : k = 0 := by omega
    obtain rfl : l = [] := List.eq_nil_of_length_eq_zero hl.symm
    exact ⟨none, 0, by simp [sliced], .inl ⟨rfl, rfl⟩⟩
  | some p =>
    obtain ⟨g, rfl⟩ := h1 p rfl
    subst hl
    by_cases hck : cap = k
    · have e : sliced (some (⟨g, 0, none⟩ : Addr)) k l.length cap 1 = .slice (some ⟨g, 0, none⟩) (l.length - k) (cap - k) := by simp [sliced, hck]
      rw [e]
      exact ho.reads_drop k hk _ 0 (.inr (by omega))
    · have e : sliced (some (⟨g, 0, none⟩ : Addr)) k l.length cap 1 = .slice (some ⟨g, k, none⟩) (l.length - k) (cap - k) := by
        simp [sliced, hck, Addr.add]
        intro h; simp [h]
      rw [e]
      exact ho.reads_drop k hk _ k (.inl rfl)
/-- behind an append to back -/
def Back (R : Nat) (r rr : Rd) (w wc : World) (base : Nat) (L : List UInt8) (wx : World) : Prop :=
  ∃ a1 cap1, RdAt wx R { rr with back := .slice a1 L.length cap1 } ∧ OutAt wx base (.slice a1 L.length cap1) L ∧ Grew R 0 wc wx ∧ Fr (fun k => k = R ∨ r.back.ownBlock = some k) w wx ∧ w.heap.size ≤ wx.heap.size
theorem ext_size (S : ByteArray) (k : Nat) : (S.extract k S.size).size = S.size - k := by simp
theorem ext_list (S : ByteArray) (k : Nat) : (S.extract k S.size).data.toList = S.data.toList.drop k := by
  simp
  rw [List.take_of_length_le]
  rw [List.length_drop, Array.length_toList]
  exact Nat.le_refl _
theorem OutAt.base {w : World} {B B' : Nat} {v : Value} {l : List UInt8} (h : OutAt w B v l) (hB : B' ≤ B) : OutAt w B' v l := by
  refine ⟨h.1, ?_⟩
  rcases h.2 with q | ⟨g, cap, cur, e1, e2, e3⟩
  · exact .inl q
  · exact .inr ⟨g, cap, cur, e1, Nat.le_trans hB e2, e3⟩
theorem str_app (a b : ByteArray) : (a ++ b).data.toList = a.data.toList ++ b.data.toList := by simp
theorem str_size (a b : ByteArray) : (a ++ b).size = a.size + b.size := by simp
def WriteIn (R : Nat) (r : Rd) (most : Nat) (w : World) (S : List UInt8) (a : Im.St) (o : Ending) (w' : World) : Prop := ∃ b e, Im.Run S most a b e ∧ Wrote R r most w S a b e o w'
set_option maxRecDepth 100000 in
set_option maxHeartbeats 4000000 in
theorem write_model (R : Nat) (r : Rd) (most : Nat) (a : Im.St) (s : ByteArray) (w : World) (h : Rests w R r most a) (hs : r.s.size + s.size ≤ 281474976710656) :
    Calls Try.prog 29 #[.pointer (some ⟨R, 0, none⟩), .string s] w (WriteIn R r most w (r.s.data.toList ++ s.data.toList) a) := by
  have hR0 := h.st.at_
  have c11 := hR0.e
  rw [h.st.e] at c11
  have c0 := hR0.s
  have f0 := hR0.frozen 0
  have hR1 : RdAt (w.setCell ⟨R, 0, none⟩ (.string (r.s ++ s))) R { r with s := r.s ++ s } := hR0.set 0 _ rfl
  have hf1 := (Fr.refl (· = R) w).setCell (p := ⟨R, 0, none⟩) (Or.inl rfl) (.string (r.s ++ s))
  have hsz := str_size r.s s
  have hS1 : StOne (w.setCell ⟨R, 0, none⟩ (.string (r.s ++ s))) R w.heap.size { r with s := r.s ++ s } a.out most a := by
    obtain ⟨o1, o2, o3, o4⟩ := h.st.toStAt.outs hf1
    exact { at_ := hR1, bit := h.st.bit, state := h.st.state, last := h.st.last, left := h.st.left, told := h.st.told, most_ := h.st.most_, e := h.st.e, out := o1, back := o2, tabs := o3, base := o4, pos_le := by have := h.st.pos_le; show a.pos ≤ 8 * (r.s ++ s).size; omega, size_le := by show (r.s ++ s).size ≤ _; omega, out_le := h.st.out_le, most_le := h.st.most_le, left_le := h.st.left_le, state_le := h.st.state_le, one := h.st.one }
  rw [← str_app]
  generalize hS : r.s ++ s = S at *
  clear hsz
  go_enter Try.func29, Try.ntmps29
  go_upto_block 0 with fail
  have HS := Lib.hid hS
  clear hS
  have hg1 : Grew R w.heap.size w (w.setCell ⟨R, 0, none⟩ (.string S)) := Grew.of_fr hf1
  generalize hw1 : w.setCell ⟨R, 0, none⟩ (.string S) = w1 at *
  clear hw1 hf1 c0 f0 c11 hR1
  go_cut [] (Came R r S most w a 0)
  case first =>
    go_wp2_with fail
    go_loopg [6] (Im.gauge S.data.toList a + 1) (fun g on wr => ∃ b r', StOne wr R w.heap.size r' a.out most b ∧ (r'.s, r'.back) = (S, r.back) ∧ Grew R w.heap.size w wr ∧ Im.gauge S.data.toList b < g ∧ (∀ c f, Im.Run S.data.toList most b c f → Im.Run S.data.toList most a c f))
    case atStart => exact ⟨a, _, hS1, rfl, hg1, Nat.lt_succ_self _, fun _ _ q => q⟩
    case round =>
      clear hS1 hg1
      obtain ⟨b, r', hSb, hsb, hgb, hgg, hrun⟩ := hrel
      have kst : wr.cell? ⟨R, 2, none⟩ = some (.int .i64 (b.state : Int)) := by have := hSb.at_.state; rw [hSb.state] at this; exact this
      by_cases s3 : b.state = 3
      · have q0 : ((b.state : Int) != 3) = false := by rw [s3]; rfl
        have HC : Hid (Came R r S most w a 0 wr) := ⟨b, r', hSb, hsb, hgb, hrun _ _ (.done s3)⟩
        clear hSb hsb hgb hrun s3
        go_wp2_with fail
        go_meet
        exact HC.out
      have q0 : ((b.state : Int) != 3) = true := by simp; omega
      have HT := step_model R w.heap.size r' a.out most b wr hSb s3
      have es : r'.s = S := congrArg Prod.fst hsb
      have eb : r'.back = r.back := congrArg Prod.snd hsb
      rw [es] at HT
      cases hst : Im.stepP S.data.toList most b with
      | error e =>
        rw [hst] at HT
        by_cases e0 : e = 0
        · subst e0
          have hrun0 := hrun _ _ (.stop s3 hst)
          clear hst
          go_wp2_with (go_at_call 43; refine HT.mono ?_; rintro o w2 ⟨rfl, hS2, hf2⟩; clear HT)
          have HC : Hid (Came R r S most w a 0 w2) := ⟨b, r', hS2, hsb, hgb.then_fr hf2, hrun0⟩
          go_meet
          exact HC.out
        · have hrun0 := hrun _ _ (.stop s3 hst)
          have q1 : (e != 0) = true := by simpa using e0
          clear hst
          have e0' := Lib.hid e0
          clear e0
          go_wp2_with (go_at_call 43; refine HT.mono ?_; rintro o w2 ⟨rfl, hS2, hf2⟩; clear HT; have k11 := hS2.at_.e; have k8 := hS2.at_.out; have f11 := hS2.at_.frozen 11; have f8 := hS2.at_.frozen 8)
          have hR3 : RdAt (w2.setCell ⟨R, 11, none⟩ (.int .i64 e)) R { r' with e := e } := hS2.at_.set 11 _ rfl
          have hR4 : RdAt ((w2.setCell ⟨R, 11, none⟩ (.int .i64 e)).setCell ⟨R, 8, none⟩ (.slice none 0 0)) R { r' with e := e, out := .slice none 0 0 } := hR3.set 8 _ rfl
          have hf4 := ((hgb.fr.trans hf2).setCell (p := ⟨R, 11, none⟩) (Or.inl rfl) (.int .i64 e)).setCell (p := ⟨R, 8, none⟩) (Or.inl rfl) (.slice none 0 0)
          have HW : Hid (∀ o, o = .returned (.tuple #[.string ⟨#[]⟩, .int .i64 e]) → WriteIn R r most w S.data.toList a o ((w2.setCell ⟨R, 11, none⟩ (.int .i64 e)).setCell ⟨R, 8, none⟩ (.slice none 0 0))) := fun o ho => ⟨b, e, hrun0, Or.inl ⟨e0'.out, ho, ⟨_, hR4, rfl⟩, hf4⟩⟩
          clear hR3 hR4 hf4 hrun0
          go_ret2
          exact HW.out _ rfl
      | ok b' =>
        rw [hst] at HT
        have hrun1 : ∀ c f, Im.Run S.data.toList most b' c f → Im.Run S.data.toList most a c f := fun c f q => hrun c f (.step s3 hst q)
        have hpos := hSb.pos_le
        rw [es] at hpos
        have hgau := (Im.stepP_went hst (by rw [blen]; exact hpos) hSb.state_le).less (by rw [blen]; exact hpos)
        clear hst hrun
        go_wp2_with (go_at_call 43; refine HT.mono ?_; rintro o w2 ⟨rfl, ⟨r2, hS2, hs2⟩, hg2⟩; clear HT)
        go_roundg (gk - 1)
        case measure => omega
        case rel => exact ⟨b', r2, hS2, by rw [hs2, es, eb], hgb.trans hg2, by omega, hrun1⟩
  case rest =>
    clear hS1 hg1
    obtain ⟨wa, hwa⟩ : ∃ x : World, x = wc := ⟨wc, rfl⟩
    subst hwa
    unfold Came at hcut
    obtain ⟨b, r', hS1, hsb, hg1, hrun⟩ := hcut
    have es : r'.s = S := congrArg Prod.fst hsb
    have eb : r'.back = r.back := congrArg Prod.snd hsb
    obtain ⟨o, ho1, ho2⟩ := hS1.out
    have hcv := conv_own ho2
    have k8 := hS1.at_.out
    have k9 : wa.cell? ⟨R, 9, none⟩ = some (.int .i64 (a.out.length : Int)) := by have := hS1.at_.told; rw [hS1.told] at this; exact this
    have f9 := hS1.at_.frozen 9
    have hol := hS1.out_le
    have hml := hS1.most_le
    have hlen : b.out.length = a.out.length + o.length := by rw [ho1, List.length_append]
    have esz : (ByteArray.mk o.toArray).size = o.length := by simp [ByteArray.size]
    have ew : IntKind.i64.wrap ((a.out.length : Int) + (o.length : Int)) = ((a.out.length + o.length : Nat) : Int) := by rw [IntWalk.i64_in _ (by omega)]; omega
    have hR2 : RdAt (wa.setCell ⟨R, 9, none⟩ (.int .i64 ((a.out.length + o.length : Nat) : Int))) R { r' with told := ((a.out.length + o.length : Nat) : Int) } := hS1.at_.set 9 _ rfl
    have hf2 := (Fr.refl (· = R) wa).setCell (p := ⟨R, 9, none⟩) (Or.inl rfl) (.int .i64 ((a.out.length + o.length : Nat) : Int))
    rw [← hlen] at hR2 hf2 ew
    generalize hT : b.out.length = T at *
    replace hT := Lib.hid hT
    replace hlen := Lib.hid hlen
    replace ho1 := Lib.hid ho1
    replace hsb := Lib.hid hsb
    generalize r'.out = ov at *
    go_wp2_with fail
    clear hcv k8 k9 f9 esz ew
    have hb1 : OutAt (wa.setCell ⟨R, 9, none⟩ (.int .i64 (T : Int))) 0 r'.back (lastN 32768 a.out) := hS1.back.1.fr hS1.at_ hf2
    have hbl := hS1.back.2
    have ho3 := ho2.fr hS1.at_ hf2
    have hlb := Lib.hid (lastN_length 32768 a.out)
    have hg2 : Grew R 0 wa (wa.setCell ⟨R, 9, none⟩ (.int .i64 (T : Int))) := Grew.of_fr hf2
    have hfS : Fr (fun k => k = R ∨ r.back.ownBlock = some k) w (wa.setCell ⟨R, 9, none⟩ (.int .i64 (T : Int))) := (hg1.fr.trans hf2).mono fun _ _ q => Or.inl q
    have hbase : w.heap.size ≤ (wa.setCell ⟨R, 9, none⟩ (.int .i64 (T : Int))).heap.size := Nat.le_trans hg1.size hf2.size
    generalize hv1 : wa.setCell ⟨R, 9, none⟩ (.int .i64 (T : Int)) = v1 at *
    generalize hbv : r'.back = bv at *
    replace hbv := Lib.hid hbv
    replace es := Lib.hid es
    replace eb := Lib.hid eb
    have hreads : ReadB v1.drew ov o := ho3.reads
    have hb1d : OutAt v1.drew 0 bv (lastN 32768 a.out) := hb1
    have k7 : v1.cell? ⟨R, 7, none⟩ = some bv := hR2.back
    have k8 : v1.cell? ⟨R, 8, none⟩ = some ov := hR2.out
    have f7 := hR2.frozen 7
    clear hv1 hf2
    have hlenl : (lastN 32768 a.out).length + o.length ≤ 140737488355328 := by have := hlen.out; have := hlb.out; omega
    generalize hlbd : lastN 32768 a.out = lb at *
    replace hlbd := Lib.hid hlbd
    have hLl : (lb ++ o).length = lb.length + o.length := List.length_append
    have hLlen : (lb ++ o).length ≤ 140737488355328 := by rw [hLl]; exact hlenl
    replace hLl := Lib.hid hLl
    generalize hL : lb ++ o = L at *
    replace hL := Lib.hid hL
    have hRr : RdAt v1 R ({ r' with told := (T : Int), back := bv, out := ov } : Rd) := hR2
    clear hR2
    have HRR : Hid (({ r' with told := (T : Int), back := bv, out := ov } : Rd).s = S ∧ ({ r' with told := (T : Int), back := bv, out := ov } : Rd).bit = (b.pos : Int)) := ⟨es.out, hS1.bit⟩
    generalize hrr : ({ r' with told := (T : Int), back := bv, out := ov } : Rd) = rr at *
    go_cut [] (Back R r rr w wa 0 L)
    case first =>
      go_region_law ((refine step_append_bytes rfl (.tmp 66) (.tmp 70) 23 rfl Try.underlying23 0 bv ov lb o (by rfl) (by rfl) hb1d hreads hlenl (Nat.zero_le _) ?_; intro v' w' hv' hgrow hat; have hR3 := RdAt.grown hRr.drew hb1d hgrow; have k7' := hR3.back; have f7' := hR3.frozen 7; rw [hL.out] at hv'; obtain ⟨a1, cap1, ev, ha1⟩ := hv'.slice; subst ev))
      all_goals
        have hR4 : RdAt (w'.setCell ⟨R, 7, none⟩ (.slice a1 L.length cap1)) R { rr with back := .slice a1 L.length cap1 } := hR3.set 7 _ rfl
        have hf4 := (Fr.refl (· = R) w').setCell (p := ⟨R, 7, none⟩) (Or.inl rfl) (.slice a1 L.length cap1)
        have hv4 := hv'.fr hR3 hf4
        have hg4 : Grew R 0 wa (w'.setCell ⟨R, 7, none⟩ (.slice a1 L.length cap1)) := (Grew.grown (hg2.then_fr (Fr.refl (· = R) v1).drew) hb1d hgrow).then_fr hf4
        have hS4 := (Fr.grownB hfS.drew hb1d hgrow (fun k hk => Or.inl (Or.inr (by rw [← eb.out]; exact hk)))).setCell (p := ⟨R, 7, none⟩) (Or.inl (Or.inl rfl)) (.slice a1 L.length cap1)
        have HB : Hid (Back R r rr w wa 0 L (w'.setCell ⟨R, 7, none⟩ (.slice a1 L.length cap1))) := ⟨a1, cap1, hR4, hv4, hg4, hS4, hS4.size⟩
        clear hR4 hv4 hg4 hS4 hf4 hR3 hv' hgrow hat ha1
        go_wp2_with fail
        go_meet
        exact HB.out
    case rest =>
      clear hRr hb1 hb1d hreads k7 k8 f7 hg2 hfS hbase ho3 hlenl
      unfold Back at hcut
      obtain ⟨a1, cap1, hR4, hv4, hg4, hS4, hz4⟩ := hcut
      have hcap : L.length ≤ cap1 ∧ cap1 ≤ 9223372036854775807 ∧ (a1 = none → L.length = 0 ∧ cap1 = 0) ∧ ∀ p, a1 = some p → ∃ g, p = ⟨g, 0, none⟩ := by
        rcases hv4.2 with ⟨e, e0⟩ | ⟨g, cap', cur, e, _, _, h1, h2, _⟩
        · injection e with e1 e2 e3
          subst e1 e3
          exact ⟨by omega, by omega, (fun _ => ⟨e0, rfl⟩), fun p hp => by cases hp⟩
        · injection e with e1 e2 e3
          subst e1 e3
          unfold maxLen at h2
          exact ⟨h1, by omega, (fun hp => by cases hp), fun p hp => by cases hp; exact ⟨g, rfl⟩⟩
      obtain ⟨hc1, hc2, hc3, hc4⟩ := hcap
      obtain ⟨xv, hsl, hxv⟩ := back_cut a1 L.length cap1 (L.length - 32768) (by omega) hc1 hc2 hc3 hc4
      have hrd : ReadB wc.drew xv (lastN 32768 L) := hxv _ _ _ hv4
      have k7 : wc.cell? ⟨R, 7, none⟩ = some (.slice a1 L.length cap1) := hR4.back
      have f7 := hR4.frozen 7
      have hNil : OutAt wc.drew w.heap.size (.slice none 0 0) [] := OutAt.nil _ _
      have hlNl : ([] : List UInt8).length + (lastN 32768 L).length ≤ 140737488355328 := by rw [lastN_length]; simp; omega
      have ew : IntKind.i64.wrap ((L.length : Int) - 32768) = (L.length : Int) - 32768 := IntWalk.i64_in _ (by omega)
      have hbs : w.heap.size ≤ wc.drew.heap.size := hz4
      generalize hnl : L.length = nl at *
      replace hnl := Lib.hid hnl
      generalize hkk : nl - 32768 = kk at *
      have hmx : (if (32768 : Int) < (nl : Int) then (nl : Int) - 32768 else 0) = (kk : Int) := by split <;> omega
      replace hkk := Lib.hid hkk
      generalize hLN : lastN 32768 L = LN at *
      replace hLN := Lib.hid hLN
      go_upto_region 13 with fail
      go_cut [] (Back R r rr w wa w.heap.size LN)
      case first =>
        go_region_law ((refine step_append_bytes rfl (.const (.slice none 0 0)) (.tmp 86) 23 rfl Try.underlying23 w.heap.size (.slice none 0 0) xv [] LN (by rfl) (by rfl) hNil hrd hlNl hbs ?_; intro v' w' hv' hgrow hat; have hR5 := RdAt.grown hR4.drew hNil hgrow; have k7' := hR5.back; have f7' := hR5.frozen 7; rw [List.nil_append] at hv'; obtain ⟨a2, cap2, ev, ha2⟩ := hv'.slice; subst ev))
        all_goals
          have hR6 : RdAt (w'.setCell ⟨R, 7, none⟩ (.slice a2 LN.length cap2)) R { rr with back := .slice a2 LN.length cap2 } := hR5.set 7 _ rfl
          have hf6 := (Fr.refl (· = R) w').setCell (p := ⟨R, 7, none⟩) (Or.inl rfl) (.slice a2 LN.length cap2)
          have hv6 := hv'.fr hR5 hf6
          have hg6 : Grew R 0 wa (w'.setCell ⟨R, 7, none⟩ (.slice a2 LN.length cap2)) := (Grew.grown (B := 0) (hg4.then_fr (Fr.refl (· = R) wc).drew) (OutAt.nil wc.drew 0) hgrow).then_fr hf6
          have hS6 := (Fr.grownB hS4.drew (OutAt.nil wc.drew 0) hgrow (fun k hk => by cases hk)).setCell (p := ⟨R, 7, none⟩) (Or.inl (Or.inl rfl)) (.slice a2 LN.length cap2)
          have HB : Hid (Back R r rr w wa w.heap.size LN (w'.setCell ⟨R, 7, none⟩ (.slice a2 LN.length cap2))) := ⟨a2, cap2, hR6, hv6, hg6, hS6, hS6.size⟩
          clear hR6 hv6 hg6 hS6 hf6 hR5 hv' hgrow hat ha2 ew hmx hsl
          go_wp2_with fail
          go_meet
          exact HB.out
      case rest =>
        clear hR4 hv4 hg4 hS4 hz4 k7 f7 hNil hlNl ew hbs hmx hsl hxv hrd hc1 hc2 hc3 hc4
        obtain ⟨wb, hwb⟩ : ∃ x : World, x = wc := ⟨wc, rfl⟩
        subst hwb
        unfold Back at hcut
        obtain ⟨a2, cap2, hR5, hv5, hg5, hS5, hz5⟩ := hcut
        have k8 := hR5.out
        have f8 := hR5.frozen 8
        have hR6 : RdAt (wb.setCell ⟨R, 8, none⟩ (.slice none 0 0)) R { rr with back := .slice a2 LN.length cap2, out := .slice none 0 0 } := hR5.set 8 _ rfl
        have hf6 := (Fr.refl (· = R) wb).setCell (p := ⟨R, 8, none⟩) (Or.inl rfl) (.slice none 0 0)
        have hv6 := hv5.fr hR5 hf6
        have hg6 := hg5.then_fr hf6
        have hS6 := hS5.setCell (p := ⟨R, 8, none⟩) (Or.inl (Or.inl rfl)) (.slice none 0 0)
        go_upto_region 15 with fail
        generalize hv3 : wb.setCell ⟨R, 8, none⟩ (.slice none 0 0) = v3 at *
        clear hv3 hR5 hv5 hg5 hS5 hz5 k8 f8 hf6
        have k0 : v3.cell? ⟨R, 0, none⟩ = some (.string S) := by have := hR6.s; rw [show ({ rr with back := .slice a2 LN.length cap2, out := .slice none 0 0 } : Rd).s = S from HRR.out.1] at this; exact this
        have k1 : v3.cell? ⟨R, 1, none⟩ = some (.int .i64 (b.pos : Int)) := by have := hR6.bit; rw [show ({ rr with back := .slice a2 LN.length cap2, out := .slice none 0 0 } : Rd).bit = (b.pos : Int) from HRR.out.2] at this; exact this
        have f0 := hR6.frozen 0
        have f1 := hR6.frozen 1
        have hpl := hS1.pos_le
        rw [es.out] at hpl
        have hsl := hS1.size_le
        rw [es.out] at hsl
        have d1 : IntKind.i64.wrap ((b.pos : Int) / 8) = (b.pos : Int) / 8 := IntWalk.i64_in _ (by omega)
        have d2 : IntKind.i64.wrap ((b.pos : Int) % 8) = (b.pos : Int) % 8 := IntWalk.i64_in _ (by omega)
        have d3 : (0 : Int) ≤ (b.pos : Int) / 8 := by omega
        have d4 : (b.pos : Int) / 8 ≤ (S.size : Int) := by omega
        have d5 : ((b.pos : Int) / 8).toNat = b.pos / 8 := by omega
        have hR7 : RdAt (v3.setCell ⟨R, 0, none⟩ (.string (S.extract (b.pos / 8) S.size))) R { rr with back := .slice a2 LN.length cap2, out := .slice none 0 0, s := S.extract (b.pos / 8) S.size } := hR6.set 0 _ rfl
        have hR8 : RdAt ((v3.setCell ⟨R, 0, none⟩ (.string (S.extract (b.pos / 8) S.size))).setCell ⟨R, 1, none⟩ (.int .i64 ((b.pos : Int) % 8))).drew R { rr with back := .slice a2 LN.length cap2, out := .slice none 0 0, s := S.extract (b.pos / 8) S.size, bit := (b.pos : Int) % 8 } := hR7.set 1 _ rfl
        have hf8 := (((Fr.refl (· = R) v3).setCell (p := ⟨R, 0, none⟩) (Or.inl rfl) (.string (S.extract (b.pos / 8) S.size))).setCell (p := ⟨R, 1, none⟩) (Or.inl rfl) (.int .i64 ((b.pos : Int) % 8))).drew
        have hv8 := hv6.fr hR6 hf8
        have hg8 := hg6.then_fr hf8
        have hS8 := ((hS6.setCell (p := ⟨R, 0, none⟩) (Or.inl (Or.inl rfl)) (.string (S.extract (b.pos / 8) S.size))).setCell (p := ⟨R, 1, none⟩) (Or.inl (Or.inl rfl)) (.int .i64 ((b.pos : Int) % 8))).drew
        have HW : Hid (∀ q, q = .returned (.tuple #[.string ⟨o.toArray⟩, .int .i64 0]) → WriteIn R r most w S.data.toList a q ((v3.setCell ⟨R, 0, none⟩ (.string (S.extract (b.pos / 8) S.size))).setCell ⟨R, 1, none⟩ (.int .i64 ((b.pos : Int) % 8))).drew) := by
          intro q hq
          generalize ((v3.setCell ⟨R, 0, none⟩ (.string (S.extract (b.pos / 8) S.size))).setCell ⟨R, 1, none⟩ (.int .i64 ((b.pos : Int) % 8))).drew = v4 at *
          have hext := ext_size S (b.pos / 8)
          have hbo : b.out = a.out ++ o := ho1.out
          have hln : LN = lastN 32768 b.out := by rw [← hLN.out, ← hL.out, ← hlbd.out, lastN_app, ← hbo]
          have hdr : b.out.drop a.out.length = o := by rw [hbo, List.drop_left]
          have hTT := hT.out
          subst hrr
          refine ⟨b, 0, hrun, Or.inr ⟨rfl, by rw [hq, hdr], ?_, hS8⟩⟩
          exact ⟨_, ⟨{ at_ := hR8, bit := by show (b.pos : Int) % 8 = ((b.pos % 8 : Nat) : Int); omega, state := hS1.state, last := hS1.last, left := hS1.left, told := by show (T : Int) = (b.out.length : Int); rw [hTT], most_ := hS1.most_, e := hS1.e, out := ⟨[], by simp, OutAt.nil _ _⟩, back := ⟨by rw [← hln]; exact hv8.base (Nat.zero_le _), fun k hk => by obtain ⟨cur, hc⟩ := (hv8.row k hk).2; exact lt_of_block hc⟩, tabs := fun e => ⟨(hS1.tabs e).1.grew hS1.at_ hg8, (hS1.tabs e).2.grew hS1.at_ hg8⟩, base := Nat.le_refl _, pos_le := by show b.pos % 8 ≤ 8 * (S.extract (b.pos / 8) S.size).size; omega, size_le := by show (S.extract (b.pos / 8) S.size).size ≤ _; omega, out_le := by show b.out.length ≤ most; omega, most_le := hml, left_le := hS1.left_le, state_le := hS1.state_le, one := hS1.one }, rfl⟩, ext_list S _, fun k hk => (hv8.row k hk).1⟩
        clear hR7 hR8 hf8 hv8 hg8 hS8 hR6 hv6 hg6 hS6
        go_region
        all_goals
          go_wp2
          go_ret2
          exact HW.out _ rfl
end Go.Proofs.Ytcjcmlnbchmnnaa
