/- farrierlaw08.HuffReads: the walk. -/
import Derived.Test.YtlhoahnjedpgaaaFixed08
import Derived.Test.YtlhoahnjedpgaaaRCodesE
import Derived.Test.YtlhoahnjedpgaaaRRead
namespace Go.Proofs.Ytlhoahnjedpgaaa
open Go.RowKit

theorem err_shareR {ns : List Nat} (h : Hm.err ns = 0) : Hm.share ns ≤ 32768 := by
  unfold Hm.err at h
  by_cases h1 : 32768 < Hm.share ns
  · rw [if_pos h1] at h; omega
  · omega
theorem rd_bit (f : Nat → Nat → Option Int) (s : List UInt8) : ∀ n c l b, 0 ≤ (Hm.rd f s n c l b).2.1 ∧ ((Hm.rd f s n c l b).2.1 ≤ (b : Int) ∨ (Hm.rd f s n c l b).2.1 ≤ 8 * (s.length : Int)) := by
  intro n
  induction n with
  | zero => intro c l b; exact ⟨Int.le_refl _, .inl (by show (0 : Int) ≤ b; omega)⟩
  | succ n ih =>
    intro c l b
    cases hf : f c l with
    | none => rw [Hm.rd_none hf]; exact ⟨Int.le_refl _, .inl (by show (0 : Int) ≤ b; omega)⟩
    | some x =>
      by_cases hx : 0 ≤ x
      · rw [Hm.rd_sym hf hx]; exact ⟨by show (0 : Int) ≤ b; omega, .inl (Int.le_refl _)⟩
      · by_cases hb : s.length ≤ b / 8
        · rw [Hm.rd_end hf hx hb]; exact ⟨Int.le_refl _, .inl (by show (0 : Int) ≤ b; omega)⟩
        · rw [Hm.rd_on hf hx hb]
          have := ih (2 * c + Hm.bitOf s b) (l + 1) (b + 1)
          omega

set_option maxRecDepth 100000 in
set_option maxHeartbeats 2000000 in
theorem reads_in (a0 : Option Addr) (cap0 : Nat) (ns : List Nat) (s : ByteArray) (bit : Int) (w : World) (hs : SInts w a0 (ints ns)) (hsh : Hm.Short ns) (hl : ns.length ≤ 288) (herr : Hm.err ns = 0) (hsr : Hm.share ns ≤ 32768) (hz : s.size ≤ 140737488351232) (hb0 : -9223372036854775808 ≤ bit) (hb1 : bit ≤ 9223372036854775807) :
    Calls Try.prog 4 #[.slice a0 ns.length cap0, .string s, .int .i64 bit] w fun e w' => e = .returned (.bool true) ∧ Below w.heap.size w w' := by
  go_enter Try.func4, Try.ntmps4
  go_wp2_with fail
  refine (new_in a0 cap0 ns w hs hsh hl herr hsr).mono ?_
  rintro e w1 ⟨T, hT, rfl, ht1, hb1'⟩
  go_wp2_with fail
  refine (rcodes_valid a0 cap0 ns w1 (hs.later hb1') hsh hl herr hsr).mono ?_
  rintro e w2 ⟨gm, hgm, rfl, hrm2, hb2⟩
  clear herr
  go_wp2_with fail
  refine (fixed08 _).mono ?_
  rintro e w3 ⟨rfl, hb3⟩
  have ht := ht1.below (belThen hb2 hb3)
  have hrm := rowBelow hrm2 hb3
  have hbw := belThen (belThen hb1' hb2) hb3
  clear ht1 hrm2 hb1' hb2 hb3
  go_wp2_with fail
  go_loopw [2, 11, 12, 13, 14, 15, 16, 17] (fun b i _ _ _ _ _ _ wr => ∃ k : Nat, ∃ bt : Int, k ≤ 60 ∧ i = .int .i64 k ∧ b = .int .i64 bt ∧ -9223372036854775808 ≤ bt ∧ bt ≤ 9223372036854775807 ∧ TableAt wr T ns ∧ wr.rowIs gm 3 ns.length (cdf ns) ∧ Below w.heap.size w wr) (fun _ i _ _ _ _ _ _ _ => 60 - (intOf i).toNat)
  case atStart => exact ⟨0, bit, by omega, rfl, rfl, hb0, hb1, ht, hrm, hbw⟩
  case round =>
    clear ht hrm hbw
    obtain ⟨k, bt, hk, rfl, rfl, hb0', hb1', ht, hrm, hbel⟩ := hrel
    by_cases hlt : k < 60
    · by_cases hneg : bt < 0
      · go_wp2_with fail
        refine (read_neg T s bt _ hneg).mono ?_
        rintro e w4 ⟨rfl, rfl⟩
        unfold tri
        go_wp2_with fail
        refine (rread_neg _ _ s bt _ hneg).mono ?_
        rintro e w4 ⟨rfl, rfl⟩
        unfold tri
        go_wp2_with fail
        go_ret
        exact ⟨rfl, hbel⟩
      · obtain ⟨b, rfl⟩ := Int.eq_ofNat_of_zero_le (show 0 ≤ bt by omega)
        have hrb := rd_bit (Hm.tab ns) s.data.toList 17 0 0 b
        rw [show Hm.rd (Hm.tab ns) s.data.toList 17 0 0 b = Hm.read ns s.data.toList b from rfl, show s.data.toList.length = s.size from Array.length_toList] at hrb
        have HRD := Lib.hid (fun (w' : World) (h : TableAt w' T ns) => read_in T ns s b w' h hsh (by omega) (by omega))
        have HRR := Lib.hid (fun (w' : World) (h1 : SInts w' a0 (ints ns)) (h2 : w'.rowIs gm 3 ns.length (cdf ns)) => rread_in a0 cap0 gm ns s b w' h1 h2 hsh hl hsr (by omega) (by omega))
        generalize Hm.read ns s.data.toList b = p at *
        obtain ⟨x, nb, er⟩ := p
        simp only at hrb
        go_wp2_with fail
        refine (HRD.out _ ht).mono ?_
        rintro e w4 ⟨rfl, hb4⟩
        unfold tri
        have hrm4 := rowBelow hrm hb4
        have hs4 := hs.later (belThen hbel hb4)
        go_wp2_with fail
        refine (HRR.out _ hs4 hrm4).mono ?_
        rintro e w5 ⟨rfl, hb5⟩
        unfold tri
        have hbel5 := belThen (belThen hbel hb4) hb5
        have ht5 := (ht.below hb4).below hb5
        have hrm5 := rowBelow hrm4 hb5
        clear HRD HRR ht hrm hbel hrm4 hs4 hb4 hb5
        by_cases he : er = 0
        · subst he
          by_cases hn : nb ≤ (b : Int)
          · have hn' : decide (nb ≤ (b : Int)) = true := by simpa using hn
            go_wp2_with fail
            go_ret
            exact ⟨rfl, hbel5⟩
          · have hn' : decide (nb ≤ (b : Int)) = false := by simpa using hn
            go_wp2_with fail
            go_roundw
            case rel => exact ⟨k + 1, nb, by omega, by go_num, rfl, by omega, by omega, ht5, hrm5, hbel5⟩
            case measure => simp [intOf]; omega
        · have he' : (er != 0) = true := by rw [bne_iff_ne]; exact he
          go_wp2_with fail
          go_ret
          exact ⟨rfl, hbel5⟩
    · go_wp2_with fail
      go_ret
      exact ⟨rfl, hbel⟩
def FailsR (f : Nat) (v : Value) (w : World) (r : Value) : Prop := ∀ w', Below w.heap.size w w' → Calls Try.prog f #[v] w' fun e w'' => e = .returned r ∧ Below w'.heap.size w' w''
theorem reads_no (a0 : Option Addr) (len cap0 : Nat) (s : ByteArray) (bit : Int) (w : World) (er : Int) (her : (er != 0) = true)
    (hR : FailsR 8 (.slice a0 len cap0) w (.tuple #[.slice none 0 0, .int .i64 er])) (hN : FailsR 10 (.slice a0 len cap0) w (.tuple #[.pointer none, .int .i64 er])) :
    Calls Try.prog 4 #[.slice a0 len cap0, .string s, .int .i64 bit] w fun e w' => e = .returned (.bool true) ∧ Below w.heap.size w w' := by
  go_enter Try.func4, Try.ntmps4
  go_wp2_with fail
  refine (hN w (Below.refl _ _)).mono ?_
  rintro e w1 ⟨rfl, hb1⟩
  go_wp2_with fail
  refine (hR _ hb1).mono ?_
  rintro e w2 ⟨rfl, hb2⟩
  go_wp2_with fail
  refine (fixed08 _).mono ?_
  rintro e w3 ⟨rfl, hb3⟩
  go_wp2_with fail
  refine (fixed08 _).mono ?_
  rintro e w4 ⟨rfl, hb4⟩
  go_wp2_with fail
  go_ret
  exact ⟨rfl, belThen (belThen (belThen hb1 hb2) hb3) hb4⟩
theorem walk_HuffReads (a0 : Option Addr) (cap0 : Nat) (ls : List Int) (a1 : ByteArray) (a2 : Int) (w : World) (hs : SInts w a0 ls) (hm : ls.length ≤ maxLen) (_hw : ∀ n ∈ ls, (Lit.int .i64 n).wf = true) (z1 : a1.size ≤ 140737488351232) (w2 : (Lit.int .i64 a2).wf = true) :
    Calls Try.prog 4 #[.slice a0 ls.length cap0, .string a1, .int .i64 a2] w fun e w' => e = .returned (.bool true) ∧ Below w.heap.size w w' := by
  have hb := i64_bd w2
  rcases bad_or ls with hbad | ⟨ns, rfl, hsh, hl⟩
  · exact reads_no a0 _ cap0 a1 a2 w 80 rfl (fun w' hb => rcodes_out a0 cap0 ls w' (hs.later hb) hbad) (fun w' hb => new_out a0 cap0 ls w' (hs.later hb) hm hbad)
  · rw [ints_length]
    by_cases herr : Hm.err ns = 0
    · exact reads_in a0 cap0 ns a1 a2 w hs hsh hl herr (err_shareR herr) z1 hb.1 hb.2
    · exact reads_no a0 _ cap0 a1 a2 w (Hm.err ns) (by rw [bne_iff_ne]; exact herr) (fun w' hb => rcodes_err a0 cap0 ns w' (hs.later hb) hsh hl herr) (fun w' hb => new_err a0 cap0 ns w' (hs.later hb) hsh hl herr)
end Go.Proofs.Ytlhoahnjedpgaaa
