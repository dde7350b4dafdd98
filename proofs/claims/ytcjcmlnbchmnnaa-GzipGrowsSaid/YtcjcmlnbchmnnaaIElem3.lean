/- (*inflate.Reader).element: its walk, where it copies to the end. -/
import Derived.Test.YtcjcmlnbchmnnaaISt
namespace Go.Proofs.Ytcjcmlnbchmnnaa
open Go.RowKit

theorem lastN_length (n : Nat) (l : List UInt8) : (lastN n l).length = min n l.length := by unfold lastN; rw [List.length_drop]; omega
theorem lastN_at {n : Nat} {l : List UInt8} {k : Nat} (h : k < (lastN n l).length) : (lastN n l)[k] = l.getD (l.length - (lastN n l).length + k) 0 := by
  have h2 := lastN_length n l
  unfold lastN at h ⊢
  rw [List.getElem_drop, List.getD_eq_getElem?_getD, List.getElem?_eq_getElem (by rw [List.length_drop] at h ⊢; omega), Option.getD_some]
  congr 1
  rw [List.length_drop] at h ⊢
  omega
theorem ahead_all (R B d : Nat) (r : Rd) (tb l : List UInt8) (w : World) (hR : RdAt w R r) (ho : OutAt w B r.out l) (hb : BackAt w B r.back (lastN 32768 tb)) (hd : 1 ≤ d) (hd2 : d ≤ 32768) (h : d ≤ (tb ++ l).length) (hl : (tb ++ l).length ≤ 281474976710656) :
    Calls Try.prog 78 #[.pointer (some ⟨R, 0, none⟩), .int .i64 (d : Int)] w fun o w' => o = .returned (.int .u8 (((tb ++ l).getD ((tb ++ l).length - d) 0).toNat : Int)) ∧ Below w.heap.size w w' := by
  rw [List.length_append] at h hl ⊢
  by_cases hn : d ≤ l.length
  · refine (ahead_near R B d r l w hR ho hd hn (by omega)).mono ?_
    rintro o w' ⟨rfl, hw⟩
    refine ⟨?_, hw⟩
    have e : tb.length + l.length - d - tb.length = l.length - d := by omega
    rw [List.getD_eq_getElem?_getD, List.getElem?_append_right (by omega), e, List.getElem?_eq_getElem (by omega), Option.getD_some]
  · have hm := lastN_length 32768 tb
    refine (ahead_far R B 0 d r l (lastN 32768 tb) w hR ho hb.1 (by omega) (by omega) (by omega) (by omega)).mono ?_
    rintro o w' ⟨rfl, hw⟩
    refine ⟨?_, hw⟩
    have e : tb.length - (lastN 32768 tb).length + ((lastN 32768 tb).length + l.length - d) = tb.length + l.length - d := by omega
    rw [lastN_at, e, List.getD_eq_getElem?_getD, List.getD_eq_getElem?_getD, List.getElem?_append_left (by omega)]

/-- so many bytes have been copied -/
def Copied (R B p4 d n : Nat) (r : Rd) (tb o : List UInt8) (w' : World) : Prop := ∃ v ok, Im.copyP (tb ++ o) d n = tb ++ ok ∧ RdAt w' R { r with bit := (p4 : Int), out := v } ∧ OutAt w' B v ok
set_option maxRecDepth 100000 in
set_option maxHeartbeats 2000000 in
theorem element_copy (R T D x p1 n p2 y p3 d p4 : Nat) (r : Rd) (w : World) (hR : RdAt w R r) (hl : r.lit = .pointer (some ⟨T, 0, none⟩)) (hx : 256 < x) (hd : r.dist = .pointer (some ⟨D, 0, none⟩)) (B most : Nat) (tb o : List UInt8) (ho : OutAt w B r.out o) (hb : BackAt w B r.back (lastN 32768 tb)) (hB : B ≤ w.heap.size) (ht : r.told = (tb.length : Int)) (hm : r.most = (most : Int)) (hmm : most ≤ 140737488355328) (hd1 : 1 ≤ d) (hd2 : d ≤ 32768) (hfar : d ≤ tb.length + o.length) (hbig : tb.length + o.length + n ≤ most)
    (HS : Hid (Calls Try.prog 75 #[.pointer (some ⟨R, 0, none⟩), .pointer (some ⟨T, 0, none⟩)] w (Moves R r w (.ok (x, p1)))))
    (HL : ∀ w1, RdAt w1 R { r with bit := (p1 : Int) } → Calls Try.prog 76 #[.pointer (some ⟨R, 0, none⟩), .int .i64 (x : Int)] w1 (Moves R { r with bit := (p1 : Int) } w1 (.ok (n, p2))))
    (HS2 : ∀ w1, RdAt w1 R { r with bit := (p2 : Int) } → Fr (· = R) w w1 → Calls Try.prog 75 #[.pointer (some ⟨R, 0, none⟩), .pointer (some ⟨D, 0, none⟩)] w1 (Moves R { r with bit := (p2 : Int) } w1 (.ok (y, p3))))
    (HD : ∀ w1, RdAt w1 R { r with bit := (p3 : Int) } → Calls Try.prog 77 #[.pointer (some ⟨R, 0, none⟩), .int .i64 (y : Int)] w1 (Moves R { r with bit := (p3 : Int) } w1 (.ok (d, p4)))) :
    Calls Try.prog 59 #[.pointer (some ⟨R, 0, none⟩)] w fun e w' => e = .returned (.tuple #[]) ∧ Copied R B p4 d n r tb o w' ∧ Grew R B w w' := by
  obtain ⟨a0, cap, eo, _⟩ := ho.slice
  have a1 : IntKind.i64.wrap ((tb.length : Int) + (o.length : Int)) = (tb.length : Int) + (o.length : Int) := IntWalk.i64_in _ (by omega)
  have a3 : decide ((d : Int) ≤ (tb.length : Int) + (o.length : Int)) = true := by simp; omega
  have a4 : IntKind.i64.wrap ((most : Int) - (tb.length : Int)) = (most : Int) - (tb.length : Int) := IntWalk.i64_in _ (by omega)
  have a5 : IntKind.i64.wrap ((most : Int) - (tb.length : Int) - (o.length : Int)) = (most : Int) - (tb.length : Int) - (o.length : Int) := IntWalk.i64_in _ (by omega)
  have a6 : decide ((n : Int) ≤ (most : Int) - (tb.length : Int) - (o.length : Int)) = true := by simp; omega
  have c5 := hR.lit
  rw [hl] at c5
  have q1 : decide ((x : Int) < 256) = false := by simp; omega
  have q2 : ((x : Int) == 256) = false := by simp; omega
  have q3 : decide (x < 256) = false := by simp; omega
  clear hx
  go_enter Try.func59, Try.ntmps59
  go_wp2_with (first | (go_at_call 75; refine HS.out.mono ?_; rintro o w1 ⟨rfl, hR1, hf1⟩; clear HS) | (go_at_call 76; refine (HL _ hR1).mono ?_; rintro o w2 ⟨rfl, hR2, hf2⟩; replace hf2 := hf1.trans hf2; clear HL; have c6 : w2.cell? ⟨R, 6, none⟩ = some (.pointer (some ⟨D, 0, none⟩)) := hR2.dist.trans (congrArg some hd)))
  go_wp2_with (first | (go_at_call 75; refine (HS2 _ hR2 hf2).mono ?_; rintro o w3 ⟨rfl, hR3, hf3⟩; replace hf3 := hf2.trans hf3; clear HS2) | (go_at_call 77; refine (HD _ hR3).mono ?_; rintro o w4 ⟨rfl, hR4, hf4⟩; replace hf4 := hf3.trans hf4; clear HD))
  clear hR1 hf1 hR2 hf2 hR3 hf3 c5 c6 q1 q2 q3 hl hd
  have c9 : w4.cell? ⟨R, 9, none⟩ = some (.int .i64 (tb.length : Int)) := hR4.told.trans (by rw [← ht])
  have c8 : w4.cell? ⟨R, 8, none⟩ = some (.slice a0 o.length cap) := hR4.out.trans (congrArg some eo)
  have c10 : w4.cell? ⟨R, 10, none⟩ = some (.int .i64 (most : Int)) := hR4.most.trans (by rw [← hm])
  go_quiet ((go_at_call 71; exact Calls.quiet_of_same (must_q _ _)))
  clear c9 c8 c10
  replace hR4 := hR4.drewN nq
  replace hf4 := hf4.drewN nq
  generalize w4.drewN nq = w5 at *
  have c9 : w5.cell? ⟨R, 9, none⟩ = some (.int .i64 (tb.length : Int)) := hR4.told.trans (by rw [← ht])
  have c8 : w5.cell? ⟨R, 8, none⟩ = some (.slice a0 o.length cap) := hR4.out.trans (congrArg some eo)
  have c10 : w5.cell? ⟨R, 10, none⟩ = some (.int .i64 (most : Int)) := hR4.most.trans (by rw [← hm])
  go_wp2_with fail
  go_quiet ((go_at_call 71; exact Calls.quiet_of_same (must_q _ _)))
  clear c9 c8 c10 a1 a3 a4 a5 a6
  replace hR4 := hR4.drewN nq
  replace hf4 := hf4.drewN nq
  generalize w5.drewN nq = w6 at *
  have hg := Grew.of_fr (B := B) hf4
  have ho6 := ho.fr hR hf4
  have hb6 := hb.fr hR hf4
  have hB6 : B ≤ w6.heap.size := Nat.le_trans hB hf4.size
  go_wp2_with fail
  go_loopw [66] (fun i wr => ∃ (k : Nat) (v : Value) (ok : List UInt8), k ≤ n ∧ i = .int .i64 k ∧ Im.copyP (tb ++ o) d k = tb ++ ok ∧ RdAt wr R { r with bit := (p4 : Int), out := v } ∧ OutAt wr B v ok ∧ BackAt wr B r.back (lastN 32768 tb) ∧ Grew R B w wr ∧ B ≤ wr.heap.size) (fun i _ => n - (intOf i).toNat)
  case atStart => exact ⟨0, r.out, o, by omega, rfl, rfl, hR4, ho6, hb6, hg, hB6⟩
  case round =>
    clear hR4 hf4 hg ho6 hb6 hB6
    obtain ⟨k, v, ok, hk, rfl, hcp, hRk, hok, hbk, hgk, hBk⟩ := hrel
    by_cases hkn : (k : Int) < n
    · have q0 : decide ((k : Int) < (n : Int)) = true := by simp [hkn]
      have hlen : (tb ++ ok).length = tb.length + o.length + k := by rw [← hcp, Im.copyP_length, List.length_append]
      have hlen2 : tb.length + ok.length = tb.length + o.length + k := by rw [← hlen, List.length_append]
      have HA := Lib.hid (ahead_all R B d _ tb ok wr hRk hok hbk hd1 hd2 (by omega) (by omega))
      have hnext : Im.copyP (tb ++ o) d (k + 1) = tb ++ (ok ++ [(tb ++ ok).getD ((tb ++ ok).length - d) 0]) := by rw [Im.copyP, hcp, List.append_assoc]
      generalize (tb ++ ok).getD ((tb ++ ok).length - d) 0 = c at *
      have HT := fun w1 hb1 ho1 hs1 => Lib.hid (tell_yes R B { r with bit := (p4 : Int), out := v } tb.length most ok c w1 hb1 ho1 ht hm hs1 hmm (by omega) (by omega) (by omega))
      go_wp2_with (first | (go_at_call 78; refine HA.out.mono ?_; rintro o w7 ⟨rfl, hb7⟩; clear HA) | (go_at_call 58; refine (HT _ (hRk.below hb7) (hok.below hb7) (Nat.le_trans hBk hb7.size)).out.mono ?_; rintro o w8 ⟨rfl, ⟨v', hR8, ho8⟩, hg8⟩; clear HT))
      go_wp2
      have hb8 : BackAt w8 B r.back (lastN 32768 tb) := (hbk.fr hRk (Fr.of_below hb7)).grew (hRk.below hb7) hg8
      have hg9 : Grew R B w w8 := (hgk.then_fr (Fr.of_below hb7)).trans hg8
      have hB8 : B ≤ w8.heap.size := Nat.le_trans (Nat.le_trans hBk hb7.size) hg8.size
      go_round
      case measure => simp [intOf]; omega
      case rel => exact ⟨k + 1, v', _, by omega, by go_num, hnext, hR8, ho8, hb8, hg9, hB8⟩
    · have hkn' : k = n := by omega
      subst hkn'
      have q0 : decide ((k : Int) < (k : Int)) = false := by simp
      have HCP := Lib.hid hcp
      clear hcp
      go_wp2
      go_end0
      exact ⟨rfl, ⟨v, ok, HCP.out, hRk, hok⟩, hgk⟩
end Go.Proofs.Ytcjcmlnbchmnnaa
