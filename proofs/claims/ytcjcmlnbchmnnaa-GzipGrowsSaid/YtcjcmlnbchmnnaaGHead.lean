/- (*gzip.Reader).begins: its contract. · (*gzip.Reader).head: its contract: a head goes on from any stage. -/
import Derived.Test.YtcjcmlnbchmnnaaGd
import Derived.Test.YtcjcmlnbchmnnaaCrc
import Derived.Deep.CutBlock
import Derived.Deep.DeepCutAuto
import Derived.BigRegion
import Derived.Deep.RegionHeld3
/-! ### GBegins -/
namespace Go.Proofs.Ytcjcmlnbchmnnaa
open Go.RowKit

theorem getD_byte (s : ByteArray) (k : Nat) (h : k < s.size) : s.data.toList.getD k 0 = s[k] := by
  rw [List.getD_eq_getElem?_getD, List.getElem?_eq_getElem (by rw [Cm.len_list]; exact h), Option.getD_some, Array.getElem_toList]
  rfl
def firstB : Nat → UInt8
  | 0 => 31
  | 1 => 139
  | _ => 8
def BeginsPost (G : Nat) (g : Gd) (w : World) (o : Ending) (w' : World) : Prop :=
  Fr (· = G) w w' ∧
  ((Gz.Odd g.s.data.toList ∧ o = .returned (.tuple #[.bool false, .int .i64 100]) ∧ GdAt w' G g) ∨
   (¬ Gz.Odd g.s.data.toList ∧ g.s.size < 10 ∧ o = .returned (.tuple #[.bool false, .int .i64 0]) ∧ GdAt w' G g) ∨
   (¬ Gz.Odd g.s.data.toList ∧ 10 ≤ g.s.size ∧ o = .returned (.tuple #[.bool true, .int .i64 0]) ∧ GdAt w' G { g with fl := ((g.s.data.toList.getD 3 0).toNat : Int), p := 10 }))
theorem u8_ne {a b : UInt8} : ((a.toNat : Int) != (b.toNat : Int)) = decide (a ≠ b) := by
  by_cases h : a = b
  · subst h; simp
  · rw [decide_eq_true h]
    have : a.toNat ≠ b.toNat := fun q => h (UInt8.toNat_inj.1 q)
    simp; omega
theorem flag_high (x : UInt8) : (bits BinOp.and IntKind.u8 (x.toNat : Int) 224 != 0) = decide (32 ≤ x.toNat) := by
  have h := u8_and_nat x.toNat 224 x.toNat_lt (by omega)
  have e : bits BinOp.and IntKind.u8 (x.toNat : Int) 224 = ((x.toNat &&& 224 : Nat) : Int) := h
  rw [e]
  have : ∀ n : Fin 256, (((n.val &&& 224 : Nat) : Int) != 0) = decide (32 ≤ n.val) := by decide +kernel
  exact this ⟨x.toNat, x.toNat_lt⟩
set_option maxRecDepth 100000 in
set_option maxHeartbeats 4000000 in
theorem begins_go (G : Nat) (g : Gd) (w : World) (hG : GdAt w G g) (hs : g.s.size ≤ 281474976710656) :
    Calls Try.prog 68 #[.pointer (some ⟨G, 0, none⟩)] w (BeginsPost G g w) := by
  have c1 := hG.s
  have hlt := hG.lt
  generalize hS : g.s = S at c1
  have HP : ∀ o w', Fr (· = G) w w' → ((Gz.Odd S.data.toList ∧ o = .returned (.tuple #[.bool false, .int .i64 100]) ∧ GdAt w' G g) ∨
   (¬ Gz.Odd S.data.toList ∧ S.size < 10 ∧ o = .returned (.tuple #[.bool false, .int .i64 0]) ∧ GdAt w' G g) ∨
   (¬ Gz.Odd S.data.toList ∧ 10 ≤ S.size ∧ o = .returned (.tuple #[.bool true, .int .i64 0]) ∧ GdAt w' G { g with fl := ((S.data.toList.getD 3 0).toNat : Int), p := 10 })) → BeginsPost G g w o w' := by
    rw [← hS]; exact fun o w' h1 h2 => ⟨h1, h2⟩
  replace HP := Lib.hid HP
  rw [hS] at hs
  replace hS := Lib.hid hS
  go_enter Try.func68, Try.ntmps68
  go_wp2_with fail
  have hf1 : Fr (· = G) w (w.alloc (.cells #[.int .u8 31, .int .u8 139, .int .u8 8] 5)) := (Fr.refl _ w).alloc _
  have hG1 : GdAt (w.alloc (.cells #[.int .u8 31, .int .u8 139, .int .u8 8] 5)) G g := hG.alloc _
  have hcl : ∀ k, k < 3 → (w.alloc (.cells #[.int .u8 31, .int .u8 139, .int .u8 8] 5)).cell? ⟨w.heap.size, k, none⟩ = some (.int .u8 ((firstB k).toNat : Int)) := by
    intro k hk
    have : (w.alloc (.cells #[.int .u8 31, .int .u8 139, .int .u8 8] 5)).cell? ⟨w.heap.size, k, none⟩ = (#[.int .u8 31, .int .u8 139, .int .u8 8] : Array Value)[k]? := cell_of_row _ _ _ _ _ _ (heap_alloc_new w _)
    rw [this]
    rcases (by omega : k = 0 ∨ k = 1 ∨ k = 2) with rfl | rfl | rfl <;> rfl
  generalize w.alloc (.cells #[.int .u8 31, .int .u8 139, .int .u8 8] 5) = w1 at *
  generalize w.heap.size = B at *
  go_loopw [8] (fun i wr => ∃ k : Nat, i = .int .i64 k ∧ k ≤ 3 ∧ wr = w1 ∧ ∀ j, j < k → j < S.size → S.data.toList.getD j 0 = firstB j) (fun i _ => 3 - (intOf i).toNat)
  case atStart => exact ⟨0, rfl, by omega, rfl, fun j hj => by omega⟩
  case round =>
    obtain ⟨k, rfl, hk, rfl, hall⟩ := hrel
    have c1' := hG1.s
    rw [hS.out] at c1'
    by_cases hk3 : k < 3
    · have q1 : decide ((k : Int) < 3) = true := by simp; omega
      have hc := hcl k hk3
      by_cases hlt2 : k < S.size
      · have q2 : decide ((k : Int) < (S.size : Int)) = true := by simp; omega
        have q2' : decide (k < S.size) = true := by simp; omega
        have hget := getD_byte S k hlt2
        by_cases he : S[k] = firstB k
        · have q3 : ((S[k].toNat : Int) != ((firstB k).toNat : Int)) = false := by rw [u8_ne]; simp [he]
          have hall2 : Hid (∀ j, j < k + 1 → j < S.size → S.data.toList.getD j 0 = firstB j) := Lib.hid fun j hj hjs => by
            by_cases hjk : j = k
            · subst hjk; rw [hget, he]
            · exact hall j (by omega) hjs
          clear hall he hget hcl
          go_wp2_with fail
          go_roundw
          case rel => exact ⟨k + 1, by go_num, by omega, trivial, hall2.out⟩
          case measure => simp [intOf]; omega
        · have q3 : ((S[k].toNat : Int) != ((firstB k).toNat : Int)) = true := by rw [u8_ne]; simp [he]
          have hodd : Gz.Odd S.data.toList := by
            unfold Gz.Odd
            rw [Cm.len_list]
            have hne : S.data.toList.getD k 0 ≠ firstB k := by rw [hget]; exact he
            rcases (by omega : k = 0 ∨ k = 1 ∨ k = 2) with rfl | rfl | rfl
            · exact .inl ⟨by omega, hne⟩
            · exact .inr (.inl ⟨by omega, hne⟩)
            · exact .inr (.inr (.inl ⟨by omega, hne⟩))
          have HQ := Lib.hid (HP.out _ _ hf1 (.inl ⟨hodd, rfl, hG1⟩))
          clear hall he hget hcl hodd HP
          go_wp2_with fail
          go_ret2
          exact HQ.out
      · have q2 : decide ((k : Int) < (S.size : Int)) = false := by simp; omega
        have q2' : decide (k < S.size) = false := by simp; omega
        have hall2 : Hid (∀ j, j < k + 1 → j < S.size → S.data.toList.getD j 0 = firstB j) := Lib.hid fun j hj hjs => by
          by_cases hjk : j = k
          · omega
          · exact hall j (by omega) hjs
        clear hall hcl
        go_wp2_with fail
        go_roundw
        case rel => exact ⟨k + 1, by go_num, by omega, trivial, hall2.out⟩
        case measure => simp [intOf]; omega
    · obtain rfl : k = 3 := by omega
      have hn0 : ¬ (1 ≤ S.size ∧ S.data.toList.getD 0 0 ≠ 31) := fun q => q.2 (hall 0 (by omega) (by omega))
      have hn1 : ¬ (2 ≤ S.size ∧ S.data.toList.getD 1 0 ≠ 139) := fun q => q.2 (hall 1 (by omega) (by omega))
      have hn2 : ¬ (3 ≤ S.size ∧ S.data.toList.getD 2 0 ≠ 8) := fun q => q.2 (hall 2 (by omega) (by omega))
      have hodd : Gz.Odd S.data.toList ↔ 4 ≤ S.size ∧ 32 ≤ (S.data.toList.getD 3 0).toNat := by
        unfold Gz.Odd
        rw [Cm.len_list]
        constructor
        · rintro (q | q | q | q)
          · exact absurd q hn0
          · exact absurd q hn1
          · exact absurd q hn2
          · exact q
        · exact fun q => .inr (.inr (.inr q))
      clear hn0 hn1 hn2 hall hcl
      by_cases h4 : 3 < S.size
      · have hget := getD_byte S 3 h4
        have q2 : decide ((3 : Int) < (S.size : Int)) = true := by simp; omega
        have q2' : decide (3 < S.size) = true := by simp; omega
        rw [hget] at hodd HP
        have hfh := flag_high S[3]
        by_cases h32 : 32 ≤ S[3].toNat
        · rw [decide_eq_true h32] at hfh
          have HQ := Lib.hid (HP.out _ _ hf1 (.inl ⟨hodd.2 ⟨by omega, h32⟩, rfl, hG1⟩))
          clear HP hodd hget h32
          go_wp2_with fail
          go_ret2
          exact HQ.out
        · rw [decide_eq_false h32] at hfh
          have hno : ¬ Gz.Odd S.data.toList := fun q => h32 (hodd.1 q).2
          by_cases h10 : S.size < 10
          · have q4 : decide ((S.size : Int) < 10) = true := by simp; omega
            have q4' : decide (S.size < 10) = true := by simp; omega
            have HQ := Lib.hid (HP.out _ _ hf1 (.inr (.inl ⟨hno, h10, rfl, hG1⟩)))
            clear HP hodd hget h32 hno
            go_wp2_with fail
            go_ret2
            exact HQ.out
          · have q4 : decide ((S.size : Int) < 10) = false := by simp; omega
            have q4' : decide (S.size < 10) = false := by simp; omega
            have f3 := hG1.frozen 3
            have f2 := hG1.frozen 2
            have k2 := hG1.p
            have k3 := hG1.fl
            have hG2 : GdAt ((wr.setCell ⟨G, 3, none⟩ (.int .u8 (S[3].toNat : Int))).setCell ⟨G, 2, none⟩ (.int .i64 10)) G { g with fl := (S[3].toNat : Int), p := 10 } :=
              GdAt.set (g := { g with fl := (S[3].toNat : Int) }) (hG1.set 3 _ rfl) 2 _ rfl
            have hf2 := (hf1.setCell (p := ⟨G, 3, none⟩) (Or.inl rfl) (.int .u8 (S[3].toNat : Int))).setCell (p := ⟨G, 2, none⟩) (Or.inl rfl) (.int .i64 10)
            have HQ := Lib.hid (HP.out _ _ hf2 (.inr (.inr ⟨hno, by omega, rfl, hG2⟩)))
            clear HP hodd hget h32 hno hG2 hf2
            go_wp2_with fail
            go_ret2
            exact HQ.out
      · have q2 : decide ((3 : Int) < (S.size : Int)) = false := by simp; omega
        have q2' : decide (3 < S.size) = false := by simp; omega
        have q4 : decide ((S.size : Int) < 10) = true := by simp; omega
        have q4' : decide (S.size < 10) = true := by simp; omega
        have HQ := Lib.hid (HP.out _ _ hf1 (.inr (.inl ⟨fun q => h4 (by have := (hodd.1 q).1; omega), by omega, rfl, hG1⟩)))
        clear HP hodd
        go_wp2_with fail
        go_ret2
        exact HQ.out
end Go.Proofs.Ytcjcmlnbchmnnaa
/-! ### GHead -/
namespace Go.Proofs.Ytcjcmlnbchmnnaa
open Go.RowKit

/-- a head that has come to stage k: whatever comes behind, it goes on as from the stage (k0, fl0, p0) -/
def Staged (G : Nat) (g : Gd) (w : World) (k0 fl0 p0 : Nat) (k : Nat) (w' : World) : Prop :=
  ∃ fl p : Nat, GdAt w' G { g with st := (k : Int), fl := (fl : Int), p := (p : Int) } ∧ p ≤ g.s.size ∧ fl < 256 ∧ Fr (· = G) w w' ∧ ∀ t, Gz.stg k0 fl0 (g.s.data.toList ++ t) p0 = Gz.stg k fl (g.s.data.toList ++ t) p
def HeadPost (G : Nat) (g : Gd) (w : World) (k0 fl0 p0 : Nat) (o : Ending) (w' : World) : Prop :=
  match Gz.stg k0 fl0 g.s.data.toList p0 with
  | .more => o = .returned (.tuple #[.bool false, .int .i64 0]) ∧ ∃ k, k ≤ 4 ∧ Staged G g w k0 fl0 p0 k w'
  | .bad e => o = .returned (.tuple #[.bool false, .int .i64 e]) ∧ Fr (· = G) w w' ∧ ∃ g', GdAt w' G g' ∧ g'.r = g.r
  | .ok q => o = .returned (.tuple #[.bool true, .int .i64 0]) ∧ Fr (· = G) w w' ∧ ∃ fl : Int, GdAt w' G { g with st := 5, s := g.s.extract q g.s.size, p := 0, fl := fl }
theorem Staged.here {G : Nat} {g : Gd} {w : World} {k fl p : Nat} (hG : GdAt w G g) (hst : g.st = k) (hfl : g.fl = fl) (hp : g.p = p) (hps : p ≤ g.s.size) (hf : fl < 256) : Staged G g w k fl p k w :=
  ⟨fl, p, by rw [← hst, ← hfl, ← hp]; exact hG, hps, hf, Fr.refl _ _, fun _ => rfl⟩
theorem flag_bit (fl : Nat) (h : fl < 256) : (bits BinOp.and IntKind.u8 (fl : Int) 4 != 0) = decide (fl / 4 % 2 = 1) ∧ (bits BinOp.and IntKind.u8 (fl : Int) 8 != 0) = decide (fl / 8 % 2 = 1) ∧ (bits BinOp.and IntKind.u8 (fl : Int) 16 != 0) = decide (fl / 16 % 2 = 1) ∧ (bits BinOp.and IntKind.u8 (fl : Int) 2 != 0) = decide (fl / 2 % 2 = 1) := by
  have e4 : bits BinOp.and IntKind.u8 (fl : Int) 4 = ((fl &&& 4 : Nat) : Int) := u8_and_nat fl 4 h (by omega)
  have e8 : bits BinOp.and IntKind.u8 (fl : Int) 8 = ((fl &&& 8 : Nat) : Int) := u8_and_nat fl 8 h (by omega)
  have e16 : bits BinOp.and IntKind.u8 (fl : Int) 16 = ((fl &&& 16 : Nat) : Int) := u8_and_nat fl 16 h (by omega)
  have e2 : bits BinOp.and IntKind.u8 (fl : Int) 2 = ((fl &&& 2 : Nat) : Int) := u8_and_nat fl 2 h (by omega)
  rw [e4, e8, e16, e2]
  have : ∀ n : Fin 256, (((n.val &&& 4 : Nat) : Int) != 0) = decide (n.val / 4 % 2 = 1) ∧ (((n.val &&& 8 : Nat) : Int) != 0) = decide (n.val / 8 % 2 = 1) ∧ (((n.val &&& 16 : Nat) : Int) != 0) = decide (n.val / 16 % 2 = 1) ∧ (((n.val &&& 2 : Nat) : Int) != 0) = decide (n.val / 2 % 2 = 1) := by decide +kernel
  exact this ⟨fl, h⟩
theorem pre_list0 (s : ByteArray) (n : Nat) : (s.extract 0 n).data.toList = s.data.toList.take n := by simp
theorem and_low (x : Nat) (h : x < 4294967296) : bits BinOp.and IntKind.u32 (x : Int) 65535 = ((x % 65536 : Nat) : Int) := by
  have e := u32_and_nat x 65535 h (by omega)
  have : x &&& 65535 = x % 65536 := Nat.and_two_pow_sub_one_eq_mod x 16
  rw [this] at e
  exact e
theorem Staged.below {G : Nat} {g : Gd} {w wx w' : World} {k0 fl0 p0 k : Nat} (h : Staged G g w k0 fl0 p0 k wx) (hb : Below wx.heap.size wx w') : Staged G g w k0 fl0 p0 k w' := by
  obtain ⟨fl, p, h1, h2, h3, h4, h5⟩ := h
  exact ⟨fl, p, h1.below hb, h2, h3, h4.below hb, h5⟩
theorem Staged.step {G : Nat} {g : Gd} {w wx : World} {k0 fl0 p0 k : Nat} (fl p : Nat) {s0 : Int} {f0 : Int} {q0 : Int} (k' : Int) (hG : GdAt wx G { g with st := s0, fl := f0, p := q0 }) (hf0 : f0 = fl) (hq0 : q0 = p) (hF : Fr (· = G) w wx) (hp : p ≤ g.s.size) (hf : fl < 256) (hk : k' = (k : Int))
    (heq : ∀ t, Gz.stg k0 fl0 (g.s.data.toList ++ t) p0 = Gz.stg k fl (g.s.data.toList ++ t) p) : Staged G g w k0 fl0 p0 k (wx.setCell ⟨G, 0, none⟩ (.int .i64 k')) := by
  subst hf0 hq0 hk
  exact ⟨fl, p, hG.set 0 _ rfl, hp, hf, hF.setCell (Or.inl rfl) _, heq⟩
theorem post_more {G : Nat} {g : Gd} {w wx : World} {k0 fl0 p0 k : Nat} (h : Staged G g w k0 fl0 p0 k wx) (hk : k ≤ 4) (hm : Gz.stg k0 fl0 g.s.data.toList p0 = .more) : HeadPost G g w k0 fl0 p0 (.returned (.tuple #[.bool false, .int .i64 0])) wx := by
  unfold HeadPost; rw [hm]; exact ⟨rfl, k, hk, h⟩
theorem post_bad {G : Nat} {g g' : Gd} {w wx : World} {k0 fl0 p0 : Nat} {e : Int} (hm : Gz.stg k0 fl0 g.s.data.toList p0 = .bad e) (hF : Fr (· = G) w wx) (hG : GdAt wx G g') (hr : g'.r = g.r) : HeadPost G g w k0 fl0 p0 (.returned (.tuple #[.bool false, .int .i64 e])) wx := by
  unfold HeadPost; rw [hm]; exact ⟨rfl, hF, g', hG, hr⟩
theorem begins_odd {G : Nat} {g : Gd} {w w' : World} {o : Ending} (h : BeginsPost G g w o w') (ho : Gz.Odd g.s.data.toList) : o = .returned (.tuple #[.bool false, .int .i64 100]) ∧ GdAt w' G g ∧ Fr (· = G) w w' := by
  obtain ⟨hF, ⟨_, h1, h2⟩ | ⟨h1, _⟩ | ⟨h1, _⟩⟩ := h
  · exact ⟨h1, h2, hF⟩
  · exact absurd ho h1
  · exact absurd ho h1
theorem begins_few {G : Nat} {g : Gd} {w w' : World} {o : Ending} (h : BeginsPost G g w o w') (ho : ¬ Gz.Odd g.s.data.toList) (h10 : g.s.size < 10) : o = .returned (.tuple #[.bool false, .int .i64 0]) ∧ GdAt w' G g ∧ Fr (· = G) w w' := by
  obtain ⟨hF, ⟨h0, _⟩ | ⟨_, _, h1, h2⟩ | ⟨_, h1, _⟩⟩ := h
  · exact absurd h0 ho
  · exact ⟨h1, h2, hF⟩
  · omega
theorem begins_ok {G : Nat} {g : Gd} {w w' : World} {o : Ending} (h : BeginsPost G g w o w') (ho : ¬ Gz.Odd g.s.data.toList) (h10 : 10 ≤ g.s.size) : o = .returned (.tuple #[.bool true, .int .i64 0]) ∧ GdAt w' G { g with fl := ((g.s.data.toList.getD 3 0).toNat : Int), p := 10 } ∧ Fr (· = G) w w' := by
  obtain ⟨hF, ⟨h0, _⟩ | ⟨_, h1, _⟩ | ⟨_, _, h1, h2⟩⟩ := h
  · exact absurd h0 ho
  · omega
  · exact ⟨h1, h2, hF⟩
theorem mag_ok {s : List UInt8} (t : List UInt8) (ho : ¬ Gz.Odd s) (h10 : 10 ≤ s.length) : Gz.magP (s ++ t) = Gz.extP (s.getD 3 0).toNat (s ++ t) 10 := by
  have hl : ¬ (s ++ t).length < 10 := by rw [List.length_append]; omega
  unfold Gz.magP
  rw [if_neg (Gz.even_app t ho h10), if_neg hl, Gz.getD_app t (by omega)]
set_option maxRecDepth 100000 in
set_option maxHeartbeats 8000000 in
theorem head_go (G : Nat) (g : Gd) (k0 fl0 p0 : Nat) (w : World) (hG : GdAt w G g) (hst : g.st = k0) (hfl : g.fl = fl0) (hp : g.p = p0) (hps : p0 ≤ g.s.size) (hf : fl0 < 256) (hk : k0 ≤ 4) (hs : g.s.size ≤ 281474976710656) :
    Calls Try.prog 51 #[.pointer (some ⟨G, 0, none⟩)] w (HeadPost G g w k0 fl0 p0) := by
  have hS0 := Staged.here hG hst hfl hp hps hf
  have c0 := hG.st
  rw [hst] at c0
  have HB := Lib.hid (begins_go G g w hG hs)
  have hstx := Lib.hid hst
  have hflx := Lib.hid hfl
  have hpx := Lib.hid hp
  have hpsx := Lib.hid hps
  have hfx := Lib.hid hf
  go_enter Try.func51, Try.ntmps51
  go_upto_block 0 with fail
  go_cut [] (fun wx => ∃ fl q : Nat, GdAt wx G { g with st := ((4 : Nat) : Int), fl := (fl : Int), p := (q : Int) } ∧ q ≤ g.s.size ∧ Fr (· = G) w wx ∧ Gz.stg k0 fl0 g.s.data.toList p0 = .ok q)
  case first =>
    go_upto_block 5 with fail
    go_cut [] (fun wx => Staged G g w k0 fl0 p0 4 wx)
    case first =>
      go_upto_block 4 with fail
      go_cut [] (fun wx => Staged G g w k0 fl0 p0 3 wx)
      case first =>
        go_upto_block 3 with fail
        go_cut [] (fun wx => Staged G g w k0 fl0 p0 2 wx)
        case first =>
          go_upto_block 2 with fail
          go_cut [] (fun wx => Staged G g w k0 fl0 p0 1 wx)
          case first =>
            replace hS0 := Lib.hid hS0
            clear hst hfl hp hps hf
            rcases (by omega : k0 = 0 ∨ k0 = 1 ∨ k0 = 2 ∨ k0 = 3 ∨ k0 = 4) with rfl | rfl | rfl | rfl | rfl
            · have hfe : ((0 : Nat) : Int) = 0 := rfl
              rw [hfe] at c0
              by_cases ho : Gz.Odd g.s.data.toList
              · have hm : Gz.stg 0 fl0 g.s.data.toList p0 = .bad 100 := by show Gz.magP _ = _; unfold Gz.magP; rw [if_pos ho]
                have hmm := Lib.hid hm
                have hoo := Lib.hid ho
                clear hm ho hk
                go_wp2_with (go_at_call 68; refine HB.out.mono ?_; intro o w1 hb1; obtain ⟨rfl, hg1, hF1⟩ := begins_odd hb1 hoo.out; clear hb1; replace hg1 := Lib.hid hg1)
                go_ret2
                exact post_bad hmm.out hF1 hg1.out rfl
              · by_cases h10 : g.s.size < 10
                · have hm : Gz.stg 0 fl0 g.s.data.toList p0 = .more := by show Gz.magP _ = _; unfold Gz.magP; rw [if_neg ho, if_pos (by rw [Cm.len_list]; exact h10)]
                  have hmm := Lib.hid hm
                  have hoo := Lib.hid ho
                  clear hm ho hk
                  go_wp2_with (go_at_call 68; refine HB.out.mono ?_; intro o w1 hb1; obtain ⟨rfl, hg1, hF1⟩ := begins_few hb1 hoo.out h10; clear hb1; replace hg1 := Lib.hid hg1)
                  go_ret2
                  refine post_more (k := 0) ⟨fl0, p0, ?_, hpsx.out, hfx.out, hF1, fun _ => rfl⟩ (by omega) hmm.out
                  have := hg1.out
                  rw [← hstx.out, ← hflx.out, ← hpx.out]
                  exact this
                · have hoo := Lib.hid ho
                  have hmk := Lib.hid (fun t => mag_ok t ho (by rw [Cm.len_list]; omega))
                  have hsz : 10 ≤ g.s.size := by omega
                  clear ho hk h10
                  go_wp2_with (go_at_call 68; refine HB.out.mono ?_; intro o w1 hb1; obtain ⟨rfl, hg1, hF1⟩ := begins_ok hb1 hoo.out hsz; clear hb1; have k0 := hg1.st; have f0 := hg1.frozen 0; replace hg1 := Lib.hid hg1)
                  go_meet
                  exact Staged.step (g.s.data.toList.getD 3 0).toNat 10 1 (s0 := g.st) hg1.out rfl rfl hF1 hsz (UInt8.toNat_lt _) rfl hmk.out
            · clear hk
              go_wp2_with fail
              go_meet
              exact hS0.out
            · clear hk
              go_wp2_with fail
              go_meet
              exact hS0.out
            · clear hk
              go_wp2_with fail
              go_meet
              exact hS0.out
            · clear hk
              go_wp2_with fail
              go_meet
              exact hS0.out
          case rest =>
            clear hS0 c0 HB hG hst hfl hp hps hf hstx hflx hpx hpsx hfx hk
            obtain ⟨wa, hwa⟩ : ∃ x : World, x = wc := ⟨wc, rfl⟩
            subst hwa
            have hcx := Lib.hid hcut
            obtain ⟨fl, p, hGx, hpx1, hflt, hFx, heq⟩ := hcut
            have h0 : Gz.stg k0 fl0 g.s.data.toList p0 = Gz.extP fl g.s.data.toList p := by have := heq []; rw [List.append_nil] at this; exact this
            have kf := hGx.fl
            have ks := hGx.s
            have kp := hGx.p
            have kst := hGx.st
            have fst := hGx.frozen 0
            have fp := hGx.frozen 2
            have hfb := (flag_bit fl hflt).1
            by_cases hx : fl / 4 % 2 = 1
            · rw [decide_eq_true hx] at hfb
              by_cases hlt : g.s.size < p + 2
              · have HN := Lib.hid (number_no G _ p 2 wa hGx rfl (by omega) hs hpx1 hlt)
                rw [show ((2 : Nat) : Int) = 2 from rfl] at HN
                have hm := Lib.hid (show Gz.stg k0 fl0 g.s.data.toList p0 = .more by rw [h0]; unfold Gz.extP; rw [if_pos hx, if_pos (by rw [Cm.len_list]; exact hlt)])
                clear hx h0 heq hlt
                go_wp2_with (go_at_call 69; refine HN.out.mono ?_; rintro o w1 ⟨rfl, hb1⟩)
                go_region
                all_goals
                  go_wp2_with fail
                  go_ret2
                  exact post_more (hcx.out.below hb1.drew) (by omega) hm.out
              · have HN := Lib.hid (number_yes G _ p 2 wa hGx rfl (by omega) (by omega) hs (by show p + 2 ≤ g.s.size; omega))
                rw [show ((2 : Nat) : Int) = 2 from rfl] at HN
                have hnl : Gz.nAt 2 g.s.data.toList p < 65536 := by
                  have := Cm.getN_lt ((g.s.data.toList.drop p).take 2)
                  have h2 : ((g.s.data.toList.drop p).take 2).length ≤ 2 := by rw [List.length_take]; omega
                  have h3 : 256 ^ ((g.s.data.toList.drop p).take 2).length ≤ 256 ^ 2 := Nat.pow_le_pow_right (by omega) h2
                  unfold Gz.nAt
                  omega
                have HN2 : Hid (Calls Try.prog 69 #[.pointer (some ⟨G, 0, none⟩), .int .i64 2] wa fun o w' => o = .returned (.tuple #[.int .i64 (Gz.nAt 2 g.s.data.toList p : Int), .bool true]) ∧ Below wa.heap.size wa w') := HN
                clear HN
                have e1 : IntKind.i64.wrap ((g.s.size : Int) - (p : Int)) = (g.s.size : Int) - p := IntWalk.i64_in _ (by omega)
                have e2 : IntKind.i64.wrap ((g.s.size : Int) - (p : Int) - 2) = (g.s.size : Int) - p - 2 := IntWalk.i64_in _ (by omega)
                have hm0 : Gz.stg k0 fl0 g.s.data.toList p0 = if g.s.data.toList.length < p + 2 + Gz.nAt 2 g.s.data.toList p then .more else Gz.namP fl g.s.data.toList (p + 2 + Gz.nAt 2 g.s.data.toList p) := by
                  rw [h0]; unfold Gz.extP; rw [if_pos hx, if_neg (by rw [Cm.len_list]; exact hlt)]
                have hmt : ∀ t, p + 2 + Gz.nAt 2 g.s.data.toList p ≤ g.s.size → Gz.extP fl (g.s.data.toList ++ t) p = Gz.namP fl (g.s.data.toList ++ t) (p + 2 + Gz.nAt 2 g.s.data.toList p) := by
                  intro t hle
                  have hl : (g.s.data.toList ++ t).length = g.s.size + t.length := by rw [List.length_append, Cm.len_list]
                  have hq1 : ¬ (g.s.data.toList ++ t).length < p + 2 := by omega
                  unfold Gz.extP
                  rw [if_pos hx, if_neg hq1, Gz.nAt_app t (by rw [Cm.len_list]; omega), if_neg (by omega)]
                generalize Gz.nAt 2 g.s.data.toList p = n at *
                rw [Cm.len_list] at hm0
                by_cases hl2 : g.s.size < p + 2 + n
                · rw [if_pos hl2] at hm0
                  have hm := Lib.hid hm0
                  have e3 : decide ((g.s.size : Int) - (p : Int) - 2 < (n : Int)) = true := decide_eq_true (by omega)
                  clear hx h0 heq hlt hm0 hmt hl2
                  go_wp2_with (go_at_call 69; refine HN2.out.mono ?_; rintro o w1 ⟨rfl, hb1⟩; have hg1 := hGx.below hb1; have ks' := hg1.s; have kp' := hg1.p; replace hg1 := Lib.hid hg1)
                  go_region
                  all_goals
                    go_wp2_with fail
                    go_ret2
                    exact post_more (hcx.out.below hb1.drew) (by omega) hm.out
                · have e3 : decide ((g.s.size : Int) - (p : Int) - 2 < (n : Int)) = false := decide_eq_false (by omega)
                  have e4 : IntKind.i64.wrap (2 + (n : Int)) = 2 + (n : Int) := IntWalk.i64_in _ (by omega)
                  have e5 : IntKind.i64.wrap ((p : Int) + (2 + (n : Int))) = ((p + 2 + n : Nat) : Int) := by rw [IntWalk.i64_in _ (by omega)]; omega
                  have heq2 := Lib.hid (fun t => (heq t).trans (hmt t (by omega)))
                  have hle : p + 2 + n ≤ g.s.size := by omega
                  clear hx h0 heq hlt hm0 hmt hl2
                  go_wp2_with (go_at_call 69; refine HN2.out.mono ?_; rintro o w1 ⟨rfl, hb1⟩; have hg1 := hGx.below hb1; have ks' := hg1.s; have kp' := hg1.p; replace hg1 := Lib.hid hg1)
                  go_region
                  all_goals
                    have hg2 := hg1.out.drew
                    have hF2 := (hFx.below hb1).drew
                    have hg3 : GdAt (w1.drew.setCell ⟨G, 2, none⟩ (.int .i64 ((p + 2 + n : Nat) : Int))) G { g with st := ((1 : Nat) : Int), fl := (fl : Int), p := ((p + 2 + n : Nat) : Int) } := hg2.set 2 _ rfl
                    have hF3 := hF2.setCell (p := ⟨G, 2, none⟩) (Or.inl rfl) (.int .i64 ((p + 2 + n : Nat) : Int))
                    have kp2 := hg2.p
                    have fp2 := hg2.frozen 2
                    have kst3 := hg2.st
                    have fst3 := hg2.frozen 0
                    generalize hw2 : w1.drew = w2 at *
                    clear kp ks kf kst fst fp ks' kp'
                    replace hg3 := Lib.hid hg3
                    replace hF3 := Lib.hid hF3
                    clear hg2 hF2
                    go_wp2_with fail
                    go_meet
                    exact Staged.step fl (p + 2 + n) 2 hg3.out rfl rfl hF3.out hle hflt rfl heq2.out
            · rw [decide_eq_false hx] at hfb
              have heq2 := Lib.hid (fun t => (heq t).trans (show Gz.extP fl (g.s.data.toList ++ t) p = Gz.namP fl (g.s.data.toList ++ t) p by unfold Gz.extP; rw [if_neg hx]))
              clear hx h0 heq
              go_wp2_with fail
              go_meet
              exact Staged.step fl p 2 hGx rfl rfl hFx hpx1 hflt rfl heq2.out
        case rest =>
          clear hS0 c0 HB hG hst hfl hp hps hf hstx hflx hpx hpsx hfx hk
          obtain ⟨wa, hwa⟩ : ∃ x : World, x = wc := ⟨wc, rfl⟩
          subst hwa
          have hcx := Lib.hid hcut
          obtain ⟨fl, p, hGx, hpx1, hflt, hFx, heq⟩ := hcut
          have h0 : Gz.stg k0 fl0 g.s.data.toList p0 = Gz.namP fl g.s.data.toList p := by have := heq []; rw [List.append_nil] at this; exact this
          have kf := hGx.fl
          have ks := hGx.s
          have kp := hGx.p
          have kst := hGx.st
          have fst := hGx.frozen 0
          have fp := hGx.frozen 2
          have hfb := (flag_bit fl hflt).2.1
          by_cases hx : fl / 8 % 2 = 1
          · rw [decide_eq_true hx] at hfb
            cases htx : Gz.textP g.s.data.toList p with
            | none =>
              have HT := Lib.hid (text_no G _ p wa hGx rfl hs hpx1 htx)
              have hm := Lib.hid (show Gz.stg k0 fl0 g.s.data.toList p0 = .more by rw [h0]; unfold Gz.namP; rw [if_pos hx, htx])
              clear hx h0 heq htx
              go_wp2_with (go_at_call 70; refine HT.out.mono ?_; rintro o w1 ⟨rfl, hb1⟩)
              go_ret2
              exact post_more (hcx.out.below hb1) (by omega) hm.out
            | some q =>
              have HT := Lib.hid (text_yes G _ p q wa hGx rfl hs hpx1 htx)
              have hle := (Gz.textP_le htx (by rw [Cm.len_list]; exact hpx1)).2
              rw [Cm.len_list] at hle
              have heq2 := Lib.hid (fun t => (heq t).trans (show Gz.namP fl (g.s.data.toList ++ t) p = Gz.comP fl (g.s.data.toList ++ t) q by unfold Gz.namP; rw [if_pos hx, Gz.textP_app t htx (by rw [Cm.len_list]; exact hpx1)]))
              clear hx h0 heq htx
              go_wp2_with (go_at_call 70; refine HT.out.mono ?_; rintro o w1 ⟨rfl, hg1, hF1⟩; have kst1 := hg1.st; have fst1 := hg1.frozen 0; replace hg1 := Lib.hid hg1; replace hF1 := Lib.hid hF1)
              go_meet
              exact Staged.step fl q 3 hg1.out rfl rfl (hFx.trans hF1.out) hle hflt rfl heq2.out
          · rw [decide_eq_false hx] at hfb
            have heq2 := Lib.hid (fun t => (heq t).trans (show Gz.namP fl (g.s.data.toList ++ t) p = Gz.comP fl (g.s.data.toList ++ t) p by unfold Gz.namP; rw [if_neg hx]))
            clear hx h0 heq
            go_wp2_with fail
            go_meet
            exact Staged.step fl p 3 hGx rfl rfl hFx hpx1 hflt rfl heq2.out
      case rest =>
        clear hS0 c0 HB hG hst hfl hp hps hf hstx hflx hpx hpsx hfx hk
        obtain ⟨wa, hwa⟩ : ∃ x : World, x = wc := ⟨wc, rfl⟩
        subst hwa
        have hcx := Lib.hid hcut
        obtain ⟨fl, p, hGx, hpx1, hflt, hFx, heq⟩ := hcut
        have h0 : Gz.stg k0 fl0 g.s.data.toList p0 = Gz.comP fl g.s.data.toList p := by have := heq []; rw [List.append_nil] at this; exact this
        have kf := hGx.fl
        have ks := hGx.s
        have kp := hGx.p
        have kst := hGx.st
        have fst := hGx.frozen 0
        have fp := hGx.frozen 2
        have hfb := (flag_bit fl hflt).2.2.1
        by_cases hx : fl / 16 % 2 = 1
        · rw [decide_eq_true hx] at hfb
          cases htx : Gz.textP g.s.data.toList p with
          | none =>
            have HT := Lib.hid (text_no G _ p wa hGx rfl hs hpx1 htx)
            have hm := Lib.hid (show Gz.stg k0 fl0 g.s.data.toList p0 = .more by rw [h0]; unfold Gz.comP; rw [if_pos hx, htx])
            clear hx h0 heq htx
            go_wp2_with (go_at_call 70; refine HT.out.mono ?_; rintro o w1 ⟨rfl, hb1⟩)
            go_ret2
            exact post_more (hcx.out.below hb1) (by omega) hm.out
          | some q =>
            have HT := Lib.hid (text_yes G _ p q wa hGx rfl hs hpx1 htx)
            have hle := (Gz.textP_le htx (by rw [Cm.len_list]; exact hpx1)).2
            rw [Cm.len_list] at hle
            have heq2 := Lib.hid (fun t => (heq t).trans (show Gz.comP fl (g.s.data.toList ++ t) p = Gz.sumP fl (g.s.data.toList ++ t) q by unfold Gz.comP; rw [if_pos hx, Gz.textP_app t htx (by rw [Cm.len_list]; exact hpx1)]))
            clear hx h0 heq htx
            go_wp2_with (go_at_call 70; refine HT.out.mono ?_; rintro o w1 ⟨rfl, hg1, hF1⟩; have kst1 := hg1.st; have fst1 := hg1.frozen 0; replace hg1 := Lib.hid hg1; replace hF1 := Lib.hid hF1)
            go_meet
            exact Staged.step fl q 4 hg1.out rfl rfl (hFx.trans hF1.out) hle hflt rfl heq2.out
        · rw [decide_eq_false hx] at hfb
          have heq2 := Lib.hid (fun t => (heq t).trans (show Gz.comP fl (g.s.data.toList ++ t) p = Gz.sumP fl (g.s.data.toList ++ t) p by unfold Gz.comP; rw [if_neg hx]))
          clear hx h0 heq
          go_wp2_with fail
          go_meet
          exact Staged.step fl p 4 hGx rfl rfl hFx hpx1 hflt rfl heq2.out
    case rest =>
      clear hS0 c0 HB hG hst hfl hp hps hf hstx hflx hpx hpsx hfx hk
      obtain ⟨wa, hwa⟩ : ∃ x : World, x = wc := ⟨wc, rfl⟩
      subst hwa
      have hcx := Lib.hid hcut
      obtain ⟨fl, p, hGx, hpx1, hflt, hFx, heq⟩ := hcut
      have h0 : Gz.stg k0 fl0 g.s.data.toList p0 = Gz.sumP fl g.s.data.toList p := by have := heq []; rw [List.append_nil] at this; exact this
      have kf := hGx.fl
      have ks := hGx.s
      have kp := hGx.p
      have kst := hGx.st
      have fst := hGx.frozen 0
      have fp := hGx.frozen 2
      have hfb := (flag_bit fl hflt).2.2.2
      clear hcx
      by_cases hx : fl / 2 % 2 = 1
      · rw [decide_eq_true hx] at hfb
        by_cases hlt : g.s.size < p + 2
        · have HN := Lib.hid (number_no G _ p 2 wa hGx rfl (by omega) hs hpx1 hlt)
          rw [show ((2 : Nat) : Int) = 2 from rfl] at HN
          have hm := Lib.hid (show Gz.stg k0 fl0 g.s.data.toList p0 = .more by rw [h0]; unfold Gz.sumP; rw [if_pos hx, if_pos (by rw [Cm.len_list]; exact hlt)])
          have hcx : Hid (Staged G g w k0 fl0 p0 4 wa) := Lib.hid ⟨fl, p, hGx, hpx1, hflt, hFx, heq⟩
          clear hx h0 heq hlt
          go_wp2_with (go_at_call 69; refine HN.out.mono ?_; rintro o w1 ⟨rfl, hb1⟩)
          go_ret2
          exact post_more (hcx.out.below hb1) (by omega) hm.out
        · have HN := Lib.hid (number_yes G _ p 2 wa hGx rfl (by omega) (by omega) hs (by show p + 2 ≤ g.s.size; omega))
          rw [show ((2 : Nat) : Int) = 2 from rfl] at HN
          have HN2 : Hid (Calls Try.prog 69 #[.pointer (some ⟨G, 0, none⟩), .int .i64 2] wa fun o w' => o = .returned (.tuple #[.int .i64 (Gz.nAt 2 g.s.data.toList p : Int), .bool true]) ∧ Below wa.heap.size wa w') := HN
          have hm0 : Gz.stg k0 fl0 g.s.data.toList p0 = if Gz.nAt 2 g.s.data.toList p = Cm.crc 0 (g.s.data.toList.take p) % 65536 then .ok (p + 2) else .bad 101 := by
            rw [h0]; unfold Gz.sumP; rw [if_pos hx, if_neg (by rw [Cm.len_list]; exact hlt)]
          have hpl : p ≤ g.s.size := hpx1
          have HC := fun w => Lib.hid (crc_any 0 (g.s.extract 0 p) w (by omega) (by rw [ext_size' _ _ _ hpl]; unfold maxLen; omega))
          rw [show ((0 : Nat) : Int) = 0 from rfl, pre_list0] at HC
          have hcl := Cm.crc_lt 0 (g.s.data.toList.take p)
          have ecr : bits BinOp.and IntKind.u32 ((Cm.crc 0 (g.s.data.toList.take p) : Nat) : Int) 65535 = ((Cm.crc 0 (g.s.data.toList.take p) % 65536 : Nat) : Int) := and_low _ hcl
          generalize Gz.nAt 2 g.s.data.toList p = n at *
          generalize Cm.crc 0 (g.s.data.toList.take p) = cr at *
          have hlt2 : p + 2 ≤ g.s.size := by omega
          clear HN heq h0 hx hlt
          by_cases hne : n = cr % 65536
          · rw [if_pos hne] at hm0
            have hm := Lib.hid hm0
            have q1 : ((n : Int) != ((cr % 65536 : Nat) : Int)) = false := by simp; omega
            have q1' : ((n : Int) != IntKind.i64.wrap ((cr : Int) % 65536)) = false := by rw [IntWalk.i64_in _ (by omega)]; simp; omega
            clear hne hm0
            go_upto_region 26 with (go_at_call 69; refine HN2.out.mono ?_; rintro o w1 ⟨rfl, hb1⟩; have hg1 := hGx.below hb1; have ks' := hg1.s; have kp' := hg1.p; replace hg1 := Lib.hid hg1)
            go_region_held3 (fun w' => w'.cell? ⟨G, 1, none⟩ = some (.string g.s) ∧ w'.cell? ⟨G, 2, none⟩ = some (.int .i64 (p : Int)) ∧ w' = w1.drew) (first | exact ⟨ks', kp', rfl⟩ | assumption) (first | (go_at_call 52; refine (HC _).out.mono ?_; rintro o w' ⟨rfl, rfl⟩))
            all_goals
              have hg2 := hg1.out.drew
              have hF2 := (hFx.below hb1).drew
              have hg3 : GdAt (w1.drew.setCell ⟨G, 2, none⟩ (.int .i64 ((p + 2 : Nat) : Int))) G { g with st := ((4 : Nat) : Int), fl := (fl : Int), p := ((p + 2 : Nat) : Int) } := hg2.set 2 _ rfl
              have hF3 := hF2.setCell (p := ⟨G, 2, none⟩) (Or.inl rfl) (.int .i64 ((p + 2 : Nat) : Int))
              have kp2 := hg2.p
              have fp2 := hg2.frozen 2
              have e5 : IntKind.i64.wrap ((p : Int) + 2) = ((p + 2 : Nat) : Int) := by rw [IntWalk.i64_in _ (by omega)]; omega
              generalize hw2 : w1.drew = w2 at *
              clear kp ks kf kst fst fp ks' kp'
              replace hg3 := Lib.hid hg3
              replace hF3 := Lib.hid hF3
              clear hg2 hF2
              go_wp2_with fail
              go_meet
              exact ⟨fl, p + 2, hg3.out, hlt2, hF3.out, hm.out⟩
          · rw [if_neg hne] at hm0
            have hm := Lib.hid hm0
            have q1 : ((n : Int) != ((cr % 65536 : Nat) : Int)) = true := by simp; omega
            have q1' : ((n : Int) != IntKind.i64.wrap ((cr : Int) % 65536)) = true := by rw [IntWalk.i64_in _ (by omega)]; simp; omega
            clear hne hm0
            go_upto_region 26 with (go_at_call 69; refine HN2.out.mono ?_; rintro o w1 ⟨rfl, hb1⟩; have hg1 := hGx.below hb1; have ks' := hg1.s; have kp' := hg1.p; replace hg1 := Lib.hid hg1)
            go_region_held3 (fun w' => w'.cell? ⟨G, 1, none⟩ = some (.string g.s) ∧ w'.cell? ⟨G, 2, none⟩ = some (.int .i64 (p : Int)) ∧ w' = w1.drew) (first | exact ⟨ks', kp', rfl⟩ | assumption) (first | (go_at_call 52; refine (HC _).out.mono ?_; rintro o w' ⟨rfl, rfl⟩))
            all_goals
              have hg2 := Lib.hid hg1.out.drew
              have hF2 := Lib.hid (hFx.below hb1).drew
              go_wp2_with fail
              go_ret2
              exact post_bad hm.out hF2.out hg2.out rfl
      · rw [decide_eq_false hx] at hfb
        have hm : Gz.stg k0 fl0 g.s.data.toList p0 = .ok p := by rw [h0]; unfold Gz.sumP; rw [if_neg hx]
        clear hx h0 heq
        go_wp2_with fail
        go_meet
        exact ⟨fl, p, hGx, hpx1, hFx, hm⟩
  case rest =>
    clear hS0 c0 HB hG hst hfl hp hps hf hstx hflx hpx hpsx hfx hk
    obtain ⟨fl, q, hGq, hq, hFq, hmq⟩ := hcut
    have ks := hGq.s
    have kp := hGq.p
    have kst := hGq.st
    have fst := hGq.frozen 0
    have fs := hGq.frozen 1
    have fp := hGq.frozen 2
    have hmm := Lib.hid hmq
    clear hmq
    go_wp2_with fail
    go_region
    all_goals
      have hg1 : GdAt (wc.setCell ⟨G, 0, none⟩ (.int .i64 5)) G { g with st := 5, fl := (fl : Int), p := (q : Int) } := hGq.set 0 _ rfl
      have hg2 : GdAt ((wc.setCell ⟨G, 0, none⟩ (.int .i64 5)).setCell ⟨G, 1, none⟩ (.string (g.s.extract q g.s.size))) G { g with st := 5, fl := (fl : Int), p := (q : Int), s := g.s.extract q g.s.size } := hg1.set 1 _ rfl
      have hg3 : GdAt (((wc.setCell ⟨G, 0, none⟩ (.int .i64 5)).setCell ⟨G, 1, none⟩ (.string (g.s.extract q g.s.size))).setCell ⟨G, 2, none⟩ (.int .i64 0)).drew G { g with st := 5, fl := (fl : Int), p := 0, s := g.s.extract q g.s.size } := hg2.set 2 _ rfl
      have hF3 := (((hFq.setCell (p := ⟨G, 0, none⟩) (Or.inl rfl) (.int .i64 5)).setCell (p := ⟨G, 1, none⟩) (Or.inl rfl) (.string (g.s.extract q g.s.size))).setCell (p := ⟨G, 2, none⟩) (Or.inl rfl) (.int .i64 0)).drew
      have HQ : Hid (HeadPost G g w k0 fl0 p0 (.returned (.tuple #[.bool true, .int .i64 0])) (((wc.setCell ⟨G, 0, none⟩ (.int .i64 5)).setCell ⟨G, 1, none⟩ (.string (g.s.extract q g.s.size))).setCell ⟨G, 2, none⟩ (.int .i64 0)).drew) := by
        have h1 : Gz.stg k0 fl0 g.s.data.toList p0 = .ok q := hmm.out
        refine Lib.hid ?_
        unfold HeadPost
        rw [h1]
        exact ⟨rfl, hF3, _, hg3⟩
      clear hg1 hg2 hg3 hF3
      go_wp2_with fail
      go_ret2
      exact HQ.out
end Go.Proofs.Ytcjcmlnbchmnnaa
