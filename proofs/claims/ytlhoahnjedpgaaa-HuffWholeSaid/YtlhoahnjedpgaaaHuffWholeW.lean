/- farrierlaw08.HuffWhole: the walk. -/
import Derived.Test.YtlhoahnjedpgaaaFixed08
import Derived.Test.YtlhoahnjedpgaaaShare
import Derived.Test.YtlhoahnjedpgaaaHmFollow
import Derived.Test.YtlhoahnjedpgaaaBytes
namespace Go.Proofs.Ytlhoahnjedpgaaa
open Go.RowKit

theorem err_share' {ns : List Nat} (h : Hm.err ns = 0) : Hm.share ns ≤ 32768 := by
  unfold Hm.err at h
  by_cases h1 : 32768 < Hm.share ns
  · rw [if_pos h1] at h; omega
  · omega
theorem u8_byte {a : Int} (h : (Lit.int .u8 a).wf = true) : ∃ x : UInt8, a = (x.toNat : Int) := by
  have hb : 0 ≤ a ∧ a ≤ 255 := by simpa [Lit.wf, IntKind.min, IntKind.max, IntKind.signed, IntKind.bits] using h
  exact ⟨UInt8.ofNat a.toNat, by rw [UInt8.toNat_ofNat']; omega⟩

set_option maxRecDepth 100000 in
set_option maxHeartbeats 1000000 in
theorem whole_in (a0 : Option Addr) (cap0 : Nat) (ns : List Nat) (x y : UInt8) (w : World) (hs : SInts w a0 (ints ns)) (hsh : Hm.Short ns) (hl : ns.length ≤ 288) (herr : Hm.err ns = 0) :
    Calls Try.prog 6 #[.slice a0 ns.length cap0, .int .u8 x.toNat, .int .u8 y.toNat] w fun e w' => e = .returned (.bool true) ∧ Below w.heap.size w w' := by
  go_enter Try.func6, Try.ntmps6
  go_wp2_with fail
  refine (new_in a0 cap0 ns w hs hsh hl herr (err_share' herr)).mono ?_
  rintro e w1 ⟨T, hT, rfl, ht1, hb1⟩
  clear herr
  go_wp2_with fail
  refine (fixed08 _).mono ?_
  rintro e w2 ⟨rfl, hb2⟩
  have ht2 := ht1.below hb2
  have hb := belThen hb1 hb2
  have hs2 := hs.later hb
  clear ht1 hb1 hb2
  go_wp2_with fail
  refine (share_in a0 cap0 ns w2 hs2 hsh hl).mono ?_
  rintro e w3 ⟨rfl, rfl⟩
  by_cases hw : Hm.share ns = 32768
  · rw [hw]
    obtain ⟨i, hi, hrd⟩ := Hm.read_whole hsh hw x y
    have hcv : ∀ (w' : World) (T' : TypeId), (convert 39 9 (.slice (some ⟨w'.heap.size, 0, none⟩) 2 2)).run Try.prog (w'.alloc (.cells #[.int .u8 x.toNat, .int .u8 y.toNat] T')) = .ok (.string ⟨#[x, y]⟩) (w'.alloc (.cells #[.int .u8 x.toNat, .int .u8 y.toNat] T')) := fun w' T' =>
      conv_cells _ _ 2 2 [x, y] rfl (new_bytes w' _ T' [x, y] rfl)
    have HRD := Lib.hid hrd
    clear hrd hw
    go_wp2_with fail
    clear hcv
    refine (read_in T ns ⟨#[x, y]⟩ 0 _ (ht2.below ((Below.refl _ _).alloc (Nat.le_refl _) _)) hsh (by simp [ByteArray.size]) (by omega)).mono ?_
    rintro e w4 ⟨rfl, hb4⟩
    rw [show (ByteArray.mk #[x, y]).data.toList = [x, y] from rfl, HRD.out]
    have hb5 := belThen hb (belLit hb4)
    have hs5 := hs.later hb5
    obtain ⟨b, o, hix, hc, hbl⟩ := hs5.atN i hi cap0
    generalize Hm.len ns i = L at *
    show _
    unfold tri
    go_wp2_with fail
    go_ret
    exact ⟨rfl, hb5⟩
  · have hw' : (((Hm.share ns : Nat) : Int) != 32768) = true := by rw [bne_iff_ne]; omega
    generalize ((Hm.share ns : Nat) : Int) = sh at *
    clear hw
    go_wp2_with fail
    refine (fixed08 _).mono ?_
    rintro e w3 ⟨rfl, hb3⟩
    go_wp2_with fail
    go_ret
    exact ⟨rfl, belThen hb hb3⟩
theorem walk_HuffWhole (a0 : Option Addr) (cap0 : Nat) (ls : List Int) (a1 : Int) (a2 : Int) (w : World) (hs : SInts w a0 ls) (hm : ls.length ≤ maxLen) (_hw : ∀ n ∈ ls, (Lit.int .i64 n).wf = true) (w1 : (Lit.int .u8 a1).wf = true) (w2 : (Lit.int .u8 a2).wf = true) :
    Calls Try.prog 6 #[.slice a0 ls.length cap0, .int .u8 a1, .int .u8 a2] w fun e w' => e = .returned (.bool true) ∧ Below w.heap.size w w' := by
  obtain ⟨x, rfl⟩ := u8_byte w1
  obtain ⟨y, rfl⟩ := u8_byte w2
  clear w1 w2
  rcases bad_or ls with hbad | ⟨ns, rfl, hsh, hl⟩
  · go_enter Try.func6, Try.ntmps6
    go_wp2_with fail
    refine (new_out a0 cap0 ls w hs hm hbad).mono ?_
    rintro e w1 ⟨rfl, hb1⟩
    go_wp2_with fail
    refine (fixed08 _).mono ?_
    rintro e w2 ⟨rfl, hb2⟩
    go_wp2_with fail
    refine (fixed08 _).mono ?_
    rintro e w3 ⟨rfl, hb3⟩
    go_wp2_with fail
    go_ret
    exact ⟨rfl, belThen (belThen hb1 hb2) hb3⟩
  · rw [ints_length]
    by_cases herr : Hm.err ns = 0
    · exact whole_in a0 cap0 ns x y w hs hsh hl herr
    · have herr' : (Hm.err ns != 0) = true := by rw [bne_iff_ne]; exact herr
      go_enter Try.func6, Try.ntmps6
      go_wp2_with fail
      refine (new_err a0 cap0 ns w hs hsh hl herr).mono ?_
      rintro e w1 ⟨rfl, hb1⟩
      generalize Hm.err ns = er at *
      clear herr
      go_wp2_with fail
      refine (fixed08 _).mono ?_
      rintro e w2 ⟨rfl, hb2⟩
      go_wp2_with fail
      refine (fixed08 _).mono ?_
      rintro e w3 ⟨rfl, hb3⟩
      go_wp2_with fail
      go_ret
      exact ⟨rfl, belThen (belThen hb1 hb2) hb3⟩
end Go.Proofs.Ytlhoahnjedpgaaa
