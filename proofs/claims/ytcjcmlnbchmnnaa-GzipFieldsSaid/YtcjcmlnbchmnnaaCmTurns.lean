/- Bytes turned by others, and what becomes of their sum (plain mathematics). -/
import Derived.Test.YtcjcmlnbchmnnaaPl
namespace Go.Proofs.Ytcjcmlnbchmnnaa.Cm

def xorL (a b : List UInt8) : List UInt8 := List.zipWith (· ^^^ ·) a b
/-- the first k bytes turned -/
def xorTo (a b : List UInt8) (k : Nat) : List UInt8 := xorL (a.take k) (b.take k) ++ a.drop k
theorem xorTo_zero (a b : List UInt8) : xorTo a b 0 = a := by simp [xorTo, xorL]
theorem xorL_length (a b : List UInt8) (h : a.length = b.length) : (xorL a b).length = a.length := by simp [xorL, h]
theorem xorTo_length (a b : List UInt8) (k : Nat) (h : a.length = b.length) (hk : k ≤ a.length) : (xorTo a b k).length = a.length := by
  simp [xorTo, xorL]; omega
theorem xorTo_all (a b : List UInt8) (h : a.length = b.length) : xorTo a b a.length = xorL a b := by
  simp [xorTo]; rw [h]; simp
theorem xorTo_get (a b : List UInt8) (k : Nat) (h : a.length = b.length) (hk : k < a.length) : (xorTo a b k)[k]? = some a[k] := by
  have hl : (xorL (a.take k) (b.take k)).length = k := by simp [xorL]; omega
  rw [xorTo, List.getElem?_append_right (by omega), hl, List.getElem?_drop]
  simp [hk]
theorem xorTo_step (a b : List UInt8) (k : Nat) (h : a.length = b.length) (hk : k < a.length) :
    (xorTo a b k).set k (a[k] ^^^ b[k]'(h ▸ hk)) = xorTo a b (k + 1) := by
  have hl : (xorL (a.take k) (b.take k)).length = k := by simp [xorL]; omega
  have hb : k < b.length := h ▸ hk
  rw [xorTo, List.set_append_right _ _ (by omega), hl, Nat.sub_self]
  rw [xorTo, List.take_succ_eq_append_getElem hk, List.take_succ_eq_append_getElem hb, xorL, xorL, List.zipWith_append (by simp; omega)]
  rw [List.drop_eq_getElem_cons hk, List.set_cons_zero, List.append_assoc]
  rfl
theorem run_xor (a b : List UInt8) (h : a.length = b.length) : ∀ r s : Nat, run (r ^^^ s) (xorL a b) = run r a ^^^ run s b := by
  induction a generalizing b with
  | nil => intro r s; cases b with
    | nil => rfl
    | cons c b => simp at h
  | cons c a ih => cases b with
    | nil => simp at h
    | cons d b =>
      intro r s
      have e : byteStep (r ^^^ s) (c ^^^ d) = byteStep r c ^^^ byteStep s d := by
        unfold byteStep
        rw [← steps_xor, UInt8.toNat_xor]
        congr 1
        rw [Nat.xor_assoc, Nat.xor_assoc]; congr 1
        rw [← Nat.xor_assoc, ← Nat.xor_assoc, Nat.xor_comm s]
      show run (byteStep (r ^^^ s) (c ^^^ d)) (xorL a b) = run (byteStep r c) a ^^^ run (byteStep s d) b
      rw [e, ih b (by simpa using h)]
theorem crc_three (a b c : List UInt8) (h : a.length = b.length) (h' : b.length = c.length) : crc 0 (xorL (xorL a b) c) = (crc 0 a ^^^ crc 0 b) ^^^ crc 0 c := by
  have hf : inv 0 = 4294967295 := rfl
  have e3 : (4294967295 : Nat) = (4294967295 ^^^ 4294967295) ^^^ 4294967295 := by decide
  have key : run 4294967295 (xorL (xorL a b) c) = (run 4294967295 a ^^^ run 4294967295 b) ^^^ run 4294967295 c := by
    conv => lhs; rw [e3]
    rw [run_xor _ _ (by rw [xorL_length a b h, h, h']), run_xor _ _ h]
  unfold crc
  rw [hf, key]
  have la := run_lt a 4294967295 (by decide)
  have lb := run_lt b 4294967295 (by decide)
  have lc := run_lt c 4294967295 (by decide)
  have l3 : (run 4294967295 a ^^^ run 4294967295 b) ^^^ run 4294967295 c < 4294967296 := Nat.xor_lt_two_pow (n := 32) (Nat.xor_lt_two_pow (n := 32) la lb) lc
  rw [inv_xor _ l3, inv_xor _ la, inv_xor _ lb, inv_xor _ lc]
  generalize run 4294967295 a = x
  generalize run 4294967295 b = y
  generalize run 4294967295 c = z
  generalize (4294967295 : Nat) = f
  have c1 : (f ^^^ x ^^^ (f ^^^ y)) = x ^^^ y := by
    rw [Nat.xor_comm f x, Nat.xor_assoc, ← Nat.xor_assoc f f y, Nat.xor_self, Nat.zero_xor]
  rw [c1, ← Nat.xor_assoc (x ^^^ y) f z, Nat.xor_comm (x ^^^ y) f, Nat.xor_assoc f]
theorem byteStep_inj_left {r s : Nat} (c : UInt8) (hr : r < 4294967296) (hs : s < 4294967296) (h : byteStep r c = byteStep s c) : r = s := by
  have := steps_inj 8 (xor_byte_lt r c hr) (xor_byte_lt s c hs) h
  have := congrArg (· ^^^ c.toNat) this
  simpa [Nat.xor_assoc] using this
theorem run_inj (l : List UInt8) : ∀ {r s : Nat}, r < 4294967296 → s < 4294967296 → run r l = run s l → r = s := by
  induction l with
  | nil => intro r s _ _ h; exact h
  | cons c l ih => intro r s hr hs h; exact byteStep_inj_left c hr hs (ih (byteStep_lt _ _ hr) (byteStep_lt _ _ hs) h)
theorem crc_one (l : List UInt8) (i : Nat) (c : UInt8) (hi : i < l.length) (hc : c ≠ l[i]) : crc 0 (l.set i c) ≠ crc 0 l := by
  intro h
  have hr : run (inv 0) (l.set i c) = run (inv 0) l := by
    have h1 := run_lt (l.set i c) (inv 0) (inv_lt _)
    have h2 := run_lt l (inv 0) (inv_lt _)
    unfold crc at h
    unfold inv at h h1 h2 ⊢
    omega
  have e : l = l.take i ++ l[i] :: l.drop (i + 1) := by simp
  have e1 : l.set i c = l.take i ++ c :: l.drop (i + 1) := by
    rw [List.set_eq_take_append_cons_drop, if_pos hi]
  rw [e1] at hr
  conv at hr => rhs; rw [e]
  rw [run_append, run_append] at hr
  have hx := run_lt (l.take i) (inv 0) (inv_lt _)
  generalize run (inv 0) (l.take i) = x at *
  have h3 := run_inj (l.drop (i + 1)) (byteStep_lt _ _ hx) (byteStep_lt _ _ hx) hr
  have h4 := steps_inj 8 (xor_byte_lt x c hx) (xor_byte_lt x l[i] hx) h3
  have h5 := congrArg (x ^^^ ·) h4
  simp only [← Nat.xor_assoc, Nat.xor_self, Nat.zero_xor] at h5
  exact hc (UInt8.toNat_inj.1 h5)
theorem xor_ne (c d : UInt8) (hd : d ≠ 0) : c ^^^ d ≠ c := by
  intro h
  have h5 := congrArg (fun x => c ^^^ x) h
  simp only [← UInt8.xor_assoc, UInt8.xor_self, UInt8.zero_xor] at h5
  exact hd h5
end Go.Proofs.Ytcjcmlnbchmnnaa.Cm
