/- (*gzip.Reader).begins: its contract. -/
import Derived.Test.YtcjcmlnbchmnnaaGd
namespace Go.Proofs.Ytcjcmlnbchmnnaa
open Go.RowKit

theorem getD_byte (s : ByteArray) (k : Nat) (h : k < s.size) : s.data.toList.getD k 0 = s[k] := by
  rw [List.getD_eq_getElem?_getD, List.getElem?_eq_getElem (by rw [Cm.len_list]; exact h), Option.getD_some, Array.getElem_toList]
  rfl
def firstB : Nat → UInt8
  | 0 => 31
  | 1 => 139
  | _ => 8
def BeginsPost (G : Nat) (g : Gd) (w : World) (o : Ending) (w' : World) : Prop :=
  Fr (· = G) w w' ∧
  ((Gz.Odd g.s.data.toList ∧ o = .returned (.tuple #[.bool false, .int .i64 100]) ∧ GdAt w' G g) ∨
   (¬ Gz.Odd g.s.data.toList ∧ g.s.size < 10 ∧ o = .returned (.tuple #[.bool false, .int .i64 0]) ∧ GdAt w' G g) ∨
   (¬ Gz.Odd g.s.data.toList ∧ 10 ≤ g.s.size ∧ o = .returned (.tuple #[.bool true, .int .i64 0]) ∧ GdAt w' G { g with fl := ((g.s.data.toList.getD 3 0).toNat : Int), p := 10 }))
theorem u8_ne {a b : UInt8} : ((a.toNat : Int) != (b.toNat : Int)) = decide (a ≠ b) := by
  by_cases h : a = b
  · subst h; simp
  · rw [decide_eq_true h]
    have : a.toNat ≠ b.toNat := fun q => h (UInt8.toNat_inj.1 q)
    simp; omega
theorem flag_high (x : UInt8) : (bits BinOp.and IntKind.u8 (x.toNat : Int) 224 != 0) = decide (32 ≤ x.toNat) := by
  have h := u8_and_nat x.toNat 224 x.toNat_lt (by omega)
  have e : bits BinOp.and IntKind.u8 (x.toNat : Int) 224 = ((x.toNat &&& 224 : Nat) : Int) := h
  rw [e]
  have : ∀ n : Fin 256, (((n.val &&& 224 : Nat) : Int) != 0) = decide (32 ≤ n.val) := by decide +kernel
  exact this ⟨x.toNat, x.toNat_lt⟩
set_option maxRecDepth 100000 in
set_option maxHeartbeats 4000000 in
theorem begins_go (G : Nat) (g : Gd) (w : World) (hG : GdAt w G g) (hs : g.s.size ≤ 281474976710656) :
    Calls Try.prog 68 #[.pointer (some ⟨G, 0, none⟩)] w (BeginsPost G g w) := by
  have c1 := hG.s
  have hlt := hG.lt
  generalize hS : g.s = S at c1
  have HP : ∀ o w', Fr (· = G) w w' → ((Gz.Odd S.data.toList ∧ o = .returned (.tuple #[.bool false, .int .i64 100]) ∧ GdAt w' G g) ∨
   (¬ Gz.Odd S.data.toList ∧ S.size < 10 ∧ o = .returned (.tuple #[.bool false, .int .i64 0]) ∧ GdAt w' G g) ∨
   (¬ Gz.Odd S.data.toList ∧ 10 ≤ S.size ∧ o = .returned (.tuple #[.bool true, .int .i64 0]) ∧ GdAt w' G { g with fl := ((S.data.toList.getD 3 0).toNat : Int), p := 10 })) → BeginsPost G g w o w' := by
    rw [← hS]; exact fun o w' h1 h2 => ⟨h1, h2⟩
  replace HP := Lib.hid HP
  rw [hS] at hs
  replace hS := Lib.hid hS
  go_enter Try.func68, Try.ntmps68
  go_wp2_with fail
  have hf1 : Fr (· = G) w (w.alloc (.cells #[.int .u8 31, .int .u8 139, .int .u8 8] 5)) := (Fr.refl _ w).alloc _
  have hG1 : GdAt (w.alloc (.cells #[.int .u8 31, .int .u8 139, .int .u8 8] 5)) G g := hG.alloc _
  have hcl : ∀ k, k < 3 → (w.alloc (.cells #[.int .u8 31, .int .u8 139, .int .u8 8] 5)).cell? ⟨w.heap.size, k, none⟩ = some (.int .u8 ((firstB k).toNat : Int)) := by
    intro k hk
    have : (w.alloc (.cells #[.int .u8 31, .int .u8 139, .int .u8 8] 5)).cell? ⟨w.heap.size, k, none⟩ = (#[.int .u8 31, .int .u8 139, .int .u8 8] : Array Value)[k]? := cell_of_row _ _ _ _ _ _ (heap_alloc_new w _)
    rw [this]
    rcases (by omega : k = 0 ∨ k = 1 ∨ k = 2) with rfl | rfl | rfl <;> rfl
  generalize w.alloc (.cells #[.int .u8 31, .int .u8 139, .int .u8 8] 5) = w1 at *
  generalize w.heap.size = B at *
  go_loopw [8] (fun i wr => ∃ k : Nat, i = .int .i64 k ∧ k ≤ 3 ∧ wr = w1 ∧ ∀ j, j < k → j < S.size → S.data.toList.getD j 0 = firstB j) (fun i _ => 3 - (intOf i).toNat)
  case atStart => exact ⟨0, rfl, by omega, rfl, fun j hj => by omega⟩
  case round =>
    obtain ⟨k, rfl, hk, rfl, hall⟩ := hrel
    have c1' := hG1.s
    rw [hS.out] at c1'
    by_cases hk3 : k < 3
    · have q1 : decide ((k : Int) < 3) = true := by simp; omega
      have hc := hcl k hk3
      by_cases hlt2 : k < S.size
      · have q2 : decide ((k : Int) < (S.size : Int)) = true := by simp; omega
        have q2' : decide (k < S.size) = true := by simp; omega
        have hget := getD_byte S k hlt2
        by_cases he : S[k] = firstB k
        · have q3 : ((S[k].toNat : Int) != ((firstB k).toNat : Int)) = false := by rw [u8_ne]; simp [he]
          have hall2 : Hid (∀ j, j < k + 1 → j < S.size → S.data.toList.getD j 0 = firstB j) := Lib.hid fun j hj hjs => by
            by_cases hjk : j = k
            · subst hjk; rw [hget, he]
            · exact hall j (by omega) hjs
          clear hall he hget hcl
          go_wp2_with fail
          go_roundw
          case rel => exact ⟨k + 1, by go_num, by omega, trivial, hall2.out⟩
          case measure => simp [intOf]; omega
        · have q3 : ((S[k].toNat : Int) != ((firstB k).toNat : Int)) = true := by rw [u8_ne]; simp [he]
          have hodd : Gz.Odd S.data.toList := by
            unfold Gz.Odd
            rw [Cm.len_list]
            have hne : S.data.toList.getD k 0 ≠ firstB k := by rw [hget]; exact he
            rcases (by omega : k = 0 ∨ k = 1 ∨ k = 2) with rfl | rfl | rfl
            · exact .inl ⟨by omega, hne⟩
            · exact .inr (.inl ⟨by omega, hne⟩)
            · exact .inr (.inr (.inl ⟨by omega, hne⟩))
          have HQ := Lib.hid (HP.out _ _ hf1 (.inl ⟨hodd, rfl, hG1⟩))
          clear hall he hget hcl hodd HP
          go_wp2_with fail
          go_ret2
          exact HQ.out
      · have q2 : decide ((k : Int) < (S.size : Int)) = false := by simp; omega
        have q2' : decide (k < S.size) = false := by simp; omega
        have hall2 : Hid (∀ j, j < k + 1 → j < S.size → S.data.toList.getD j 0 = firstB j) := Lib.hid fun j hj hjs => by
          by_cases hjk : j = k
          · omega
          · exact hall j (by omega) hjs
        clear hall hcl
        go_wp2_with fail
        go_roundw
        case rel => exact ⟨k + 1, by go_num, by omega, trivial, hall2.out⟩
        case measure => simp [intOf]; omega
    · obtain rfl : k = 3 := by omega
      have hn0 : ¬ (1 ≤ S.size ∧ S.data.toList.getD 0 0 ≠ 31) := fun q => q.2 (hall 0 (by omega) (by omega))
      have hn1 : ¬ (2 ≤ S.size ∧ S.data.toList.getD 1 0 ≠ 139) := fun q => q.2 (hall 1 (by omega) (by omega))
      have hn2 : ¬ (3 ≤ S.size ∧ S.data.toList.getD 2 0 ≠ 8) := fun q => q.2 (hall 2 (by omega) (by omega))
      have hodd : Gz.Odd S.data.toList ↔ 4 ≤ S.size ∧ 32 ≤ (S.data.toList.getD 3 0).toNat := by
        unfold Gz.Odd
        rw [Cm.len_list]
        constructor
        · rintro (q | q | q | q)
          · exact absurd q hn0
          · exact absurd q hn1
          · exact absurd q hn2
          · exact q
        · exact fun q => .inr (.inr (.inr q))
      clear hn0 hn1 hn2 hall hcl
      by_cases h4 : 3 < S.size
      · have hget := getD_byte S 3 h4
        have q2 : decide ((3 : Int) < (S.size : Int)) = true := by simp; omega
        have q2' : decide (3 < S.size) = true := by simp; omega
        rw [hget] at hodd HP
        have hfh := flag_high S[3]
        by_cases h32 : 32 ≤ S[3].toNat
        · rw [decide_eq_true h32] at hfh
          have HQ := Lib.hid (HP.out _ _ hf1 (.inl ⟨hodd.2 ⟨by omega, h32⟩, rfl, hG1⟩))
          clear HP hodd hget h32
          go_wp2_with fail
          go_ret2
          exact HQ.out
        · rw [decide_eq_false h32] at hfh
          have hno : ¬ Gz.Odd S.data.toList := fun q => h32 (hodd.1 q).2
          by_cases h10 : S.size < 10
          · have q4 : decide ((S.size : Int) < 10) = true := by simp; omega
            have q4' : decide (S.size < 10) = true := by simp; omega
            have HQ := Lib.hid (HP.out _ _ hf1 (.inr (.inl ⟨hno, h10, rfl, hG1⟩)))
            clear HP hodd hget h32 hno
            go_wp2_with fail
            go_ret2
            exact HQ.out
          · have q4 : decide ((S.size : Int) < 10) = false := by simp; omega
            have q4' : decide (S.size < 10) = false := by simp; omega
            have f3 := hG1.frozen 3
            have f2 := hG1.frozen 2
            have k2 := hG1.p
            have k3 := hG1.fl
            have hG2 : GdAt ((wr.setCell ⟨G, 3, none⟩ (.int .u8 (S[3].toNat : Int))).setCell ⟨G, 2, none⟩ (.int .i64 10)) G { g with fl := (S[3].toNat : Int), p := 10 } :=
              GdAt.set (g := { g with fl := (S[3].toNat : Int) }) (hG1.set 3 _ rfl) 2 _ rfl
            have hf2 := (hf1.setCell (p := ⟨G, 3, none⟩) (Or.inl rfl) (.int .u8 (S[3].toNat : Int))).setCell (p := ⟨G, 2, none⟩) (Or.inl rfl) (.int .i64 10)
            have HQ := Lib.hid (HP.out _ _ hf2 (.inr (.inr ⟨hno, by omega, rfl, hG2⟩)))
            clear HP hodd hget h32 hno hG2 hf2
            go_wp2_with fail
            go_ret2
            exact HQ.out
      · have q2 : decide ((3 : Int) < (S.size : Int)) = false := by simp; omega
        have q2' : decide (3 < S.size) = false := by simp; omega
        have q4 : decide ((S.size : Int) < 10) = true := by simp; omega
        have q4' : decide (S.size < 10) = true := by simp; omega
        have HQ := Lib.hid (HP.out _ _ hf1 (.inr (.inl ⟨fun q => h4 (by have := (hodd.1 q).1; omega), by omega, rfl, hG1⟩)))
        clear HP hodd
        go_wp2_with fail
        go_ret2
        exact HQ.out
end Go.Proofs.Ytcjcmlnbchmnnaa
