/- farrierlaw09.InflateStores: the walk. -/
import Derived.Test.YtcjcmlnbchmnnaaIFixed9
import Derived.Test.YtcjcmlnbchmnnaaIApp
namespace Go.Proofs.Ytcjcmlnbchmnnaa
open Go.RowKit

def encN (cs : List (List UInt8)) : List UInt8 := (cs.map (Im.blk false)).flatten
theorem encN_snoc (cs : List (List UInt8)) (c : List UInt8) : encN (cs ++ [c]) = encN cs ++ Im.blk false c := by simp [encN]
theorem enc_snoc : ∀ (cs : List (List UInt8)) (c : List UInt8), Im.enc (cs ++ [c]) = encN cs ++ Im.blk true c
  | [], c => by simp [encN, Im.enc]
  | [d], c => by simp [encN, Im.enc]
  | d :: e :: cs, c => by
    have ih := enc_snoc (e :: cs) c
    show Im.blk false d ++ Im.enc (e :: cs ++ [c]) = _
    rw [ih]
    simp [encN]
theorem encN_length : ∀ cs : List (List UInt8), (encN cs).length = 5 * cs.length + cs.flatten.length
  | [] => rfl
  | c :: cs => by
    have ih := encN_length cs
    unfold encN at *
    simp only [List.map_cons, List.flatten_cons, List.length_append, Im.blk_length, List.length_cons, ih]
    omega
theorem pre_list (s : ByteArray) (n : Nat) : (s.extract 0 n).data.toList = s.data.toList.take n := by simp
theorem head_bytes (x : Bool) (n : Nat) (hn : n ≤ 65535) :
    #[Value.int .u8 (if x then 1 else 0), .int .u8 ((n : Int) % 256), .int .u8 ((n : Int) / 256), .int .u8 (255 - (n : Int) % 256), .int .u8 (255 - (n : Int) / 256)].toList
      = bvals [if x then 1 else 0, UInt8.ofNat n, UInt8.ofNat (n / 256), UInt8.ofNat (255 - n % 256), UInt8.ofNat (255 - n / 256)] := by
  simp only [bvals, List.map_cons, List.map_nil, UInt8.toNat_ofNat']
  cases x <;> simp <;> omega
/-- where the loop stands -/
def Laying (w0 : World) (S : List UInt8) (k : Nat) (b rest : Value) (w : World) : Prop :=
  ∃ cs rs, cs.length = k ∧ rest = .string rs ∧ cs.flatten ++ rs.data.toList = S ∧ (∀ c ∈ cs, c.length ≤ 65535) ∧ Made w0 w b (encN cs)
/-- behind it -/
def Laid (w0 : World) (S : List UInt8) (b : Value) (w : World) : Prop :=
  ∃ cs, cs ≠ [] ∧ cs.flatten = S ∧ (∀ c ∈ cs, c.length ≤ 65535) ∧ (Im.enc cs).length ≤ 1000 + S.length ∧ Made w0 w b (Im.enc cs)
set_option maxHeartbeats 4000000 in
set_option maxRecDepth 100000 in
theorem walk_InflateStores (a0 : ByteArray) (a1 : Option Addr) (cap1 : Nat) (ls : List Int) (w : World) (z0 : a0.size ≤ 140737488351232) (s1 : SInts w a1 ls) (_m1 : ls.length ≤ maxLen) (_f1 : ∀ n ∈ ls, (Lit.int .i64 n).wf = true) :
    Calls Try.prog 6 #[.string a0, .slice a1 ls.length cap1] w fun e w' => e = .returned (.bool true) ∧ Below w.heap.size w w' := by
  have HF := fun w => Lib.hid (fixed9 w)
  by_cases h5 : 60000 < a0.size
  · have q : decide ((60000 : Int) < (a0.size : Int)) = true := by simp; omega
    go_enter Try.func6, Try.ntmps6
    go_wp2_with (go_at_call 25; refine (HF _).out.mono ?_; rintro e w' ⟨rfl, hb⟩)
    go_ret
    exact ⟨rfl, hb⟩
  have q : decide ((60000 : Int) < (a0.size : Int)) = false := by simp; omega
  go_enter Try.func6, Try.ntmps6
  go_upto_block 0 with fail
  have hL0 : Laying w a0.data.toList 0 (.slice (some ⟨w.heap.size, 0, none⟩) 0 0) (.string a0) (w.alloc (.cells #[] 5)) :=
    ⟨[], a0, rfl, rfl, rfl, (fun c hc => by cases hc), World.ownsRow_lit w #[] 0 (Nat.le_refl _) (Nat.zero_le _) rfl, (Below.refl _ _).alloc (Nat.le_refl _) _⟩
  generalize w.alloc (.cells #[] 5) = w1 at *
  generalize Value.slice (some ⟨w.heap.size, 0, none⟩) 0 0 = v0 at *
  go_cut [5] (fun v wx => Laid w a0.data.toList v wx)
  case first =>
    go_wp2_with fail
    go_loopw [5, 6, 7] (fun v1 v2 i wr => ∃ k : Nat, i = .int .i64 k ∧ k ≤ 50 ∧ k ≤ ls.length ∧ Laying w a0.data.toList k v1 v2 wr) (fun _ _ i _ => 51 - (intOf i).toNat)
    case atStart => exact ⟨0, rfl, by omega, by omega, hL0⟩
    case round =>
      clear hL0
      obtain ⟨k, rfl, hk, hkl, cs, rs, hcl, rfl, hfl, hc, hown⟩ := hrel
      have hbl := hown.bel
      have hrl : rs.size ≤ a0.size := by rw [← blen rs, ← blen a0, ← hfl, List.length_append]; omega
      have hen : (encN cs).length ≤ 1000 + a0.size := by rw [encN_length, hcl, ← blen a0, ← hfl, List.length_append]; omega
      by_cases c1 : k < ls.length ∧ k < 50
      · obtain ⟨d1, d2⟩ := c1
        have q1 : decide ((k : Int) < (ls.length : Int)) = true := by simp; omega
        have q1' : decide (k < ls.length) = true := by simp; omega
        have q2 : decide ((k : Int) < 50) = true := by simp; omega
        have q3 : decide ((ls.length : Int) ≤ (k : Int)) = false := by simp; omega
        have q3' : decide (ls.length ≤ k) = false := by simp; omega
        have q4 : decide ((50 : Int) ≤ (k : Int)) = false := by simp; omega
        obtain ⟨bb, oo', hidx, hcell, hblt⟩ := s1.at k ls[k] (List.getElem?_eq_getElem d1) cap1
        have hcw : wr.cell? ⟨bb, oo', none⟩ = some (.int .i64 ls[k]) := by rw [hbl.cell (p := ⟨bb, oo', none⟩) hblt]; exact hcell
        obtain ⟨n0, hn0, en0⟩ := and_mask ls[k] 4095 (by omega)
        have en0' : bits BinOp.and IntKind.i64 ls[k] 4095 = (n0 : Int) := en0
        have m2' : (if rs.size < n0 then (rs.size : Int) else (n0 : Int)) = ((min n0 rs.size : Nat) : Int) := by split <;> omega
        have hnn2 : min n0 rs.size ≤ rs.size := Nat.min_le_right _ _
        have hn4 : min n0 rs.size ≤ 4095 := Nat.le_trans (Nat.min_le_left _ _) hn0
        generalize min n0 rs.size = nn at *
        clear hcell en0
        have HO := Lib.hid hown
        clear hbl hown
        have HH := Lib.hid (head_bytes false nn (by omega))
        have hexl : (rs.extract 0 nn).data.toList.length = nn := by rw [pre_list, List.length_take, blen]; omega
        have hhd : (encN cs ++ [if false then 1 else 0, UInt8.ofNat nn, UInt8.ofNat (nn / 256), UInt8.ofNat (255 - nn % 256), UInt8.ofNat (255 - nn / 256)]) ++ (rs.extract 0 nn).data.toList = encN (cs ++ [(rs.extract 0 nn).data.toList]) := by
          rw [encN_snoc, List.append_assoc]
          unfold Im.blk
          rw [hexl]
          rfl
        have hhl : (encN cs ++ [if false then 1 else 0, UInt8.ofNat nn, UInt8.ofNat (nn / 256), UInt8.ofNat (255 - nn % 256), UInt8.ofNat (255 - nn / 256)]).length + (rs.extract 0 nn).size ≤ 140737488355328 := by rw [List.length_append, ← blen, hexl]; simp only [List.length_cons, List.length_nil]; omega
        have HZ := Lib.hid hhl
        have HN := Lib.hid hhd
        clear hhd hhl
        go_wp2_with (first | (at_builtin; refine wpList_litM rfl _ _ rfl w _ (encN cs) rfl _ 5 rfl ?md1 ?me1 ?mf1 ?mg1 ?mh1 ?mj1; (case md1 => exact HO.out); (case mf1 => exact HH.out); (case mg1 => exact rfl); (case mh1 => omega); intro v2 w2 ho2; replace ho2 := Lib.hid ho2) | (at_builtin; refine wpList_strM rfl _ _ rfl w _ ?nl1 rfl (rs.extract 0 nn) rfl ?nd1 ?nh1 ?nj1; (case nd1 => exact ho2.out); (case nh1 => exact HZ.out); intro v3 w3 ho3; replace ho3 := Lib.hid ho3))
        go_roundw
        case rel =>
          refine ⟨k + 1, by go_num, by omega, by omega, cs ++ [(rs.extract 0 nn).data.toList], rs.extract nn rs.size, by simp [hcl], rfl, ?_, ?_, ?_⟩
          · rw [List.flatten_append, List.flatten_singleton, ext_list, pre_list, List.append_assoc, List.take_append_drop]; exact hfl
          · intro c hcm
            rcases List.mem_append.1 hcm with q | q
            · exact hc c q
            · rw [List.mem_singleton] at q; rw [q, hexl]; omega
          · rw [← HN.out]; exact ho3.out
        case measure => simp [intOf]; omega
      · have HB := Lib.hid hbl
        have HO := Lib.hid hown
        have hr6 : rs.size ≤ 60000 := by omega
        clear hbl hown
        have HH := Lib.hid (head_bytes true rs.size (by omega))
        have hhd : (encN cs ++ [if true then 1 else 0, UInt8.ofNat rs.size, UInt8.ofNat (rs.size / 256), UInt8.ofNat (255 - rs.size % 256), UInt8.ofNat (255 - rs.size / 256)]) ++ rs.data.toList = Im.enc (cs ++ [rs.data.toList]) := by
          rw [enc_snoc, List.append_assoc]
          unfold Im.blk
          rw [blen]
          rfl
        have hhl : (encN cs ++ [if true then 1 else 0, UInt8.ofNat rs.size, UInt8.ofNat (rs.size / 256), UInt8.ofNat (255 - rs.size % 256), UInt8.ofNat (255 - rs.size / 256)]).length + rs.size ≤ 140737488355328 := by rw [List.length_append]; simp only [List.length_cons, List.length_nil]; omega
        have hfin : Hid (∀ v w', Made w w' v (Im.enc (cs ++ [rs.data.toList])) → Laid w a0.data.toList v w') := fun v w' h1 =>
          ⟨cs ++ [rs.data.toList], by simp, by rw [List.flatten_append, List.flatten_singleton]; exact hfl, fun c hcm => by
            rcases List.mem_append.1 hcm with q | q
            · exact hc c q
            · rw [List.mem_singleton] at q; rw [q, blen]; omega, by
            rw [enc_snoc, List.length_append, encN_length, Im.blk_length, ← hfl, List.length_append, hcl]; omega, h1⟩
        have HZ := Lib.hid hhl
        have HN := Lib.hid hhd
        clear hhd hhl hfl hc
        by_cases d1 : k < ls.length
        · have q1 : decide ((k : Int) < (ls.length : Int)) = true := by simp; omega
          have q1' : decide (k < ls.length) = true := by simp; omega
          have q2 : decide ((k : Int) < 50) = false := by simp; omega
          have q3 : decide ((ls.length : Int) ≤ (k : Int)) = false := by simp; omega
          have q3' : decide (ls.length ≤ k) = false := by simp; omega
          have q4 : decide ((50 : Int) ≤ (k : Int)) = true := by simp; omega
          clear c1 d1
          go_wp2_with (first | (at_builtin; refine wpList_litM rfl _ _ rfl w _ (encN cs) rfl _ 5 rfl ?md2 ?me2 ?mf2 ?mg2 ?mh2 ?mj2; (case md2 => exact HO.out); (case mf2 => exact HH.out); (case mg2 => exact rfl); (case mh2 => omega); intro v2 w2 ho2; replace ho2 := Lib.hid ho2) | (at_builtin; refine wpList_strM rfl _ _ rfl w _ ?nl2 rfl rs rfl ?nd2 ?nh2 ?nj2; (case nd2 => exact ho2.out); (case nh2 => exact HZ.out); intro v3 w3 ho3; replace ho3 := Lib.hid ho3))
          go_meet
          exact hfin.out _ _ (by rw [← HN.out]; exact ho3.out)
        · have q1 : decide ((k : Int) < (ls.length : Int)) = false := by simp; omega
          have q1' : decide (k < ls.length) = false := by simp; omega
          have q3 : decide ((ls.length : Int) ≤ (k : Int)) = true := by simp; omega
          have q3' : decide (ls.length ≤ k) = true := by simp; omega
          clear c1 d1
          go_wp2_with (first | (at_builtin; refine wpList_litM rfl _ _ rfl w _ (encN cs) rfl _ 5 rfl ?md3 ?me3 ?mf3 ?mg3 ?mh3 ?mj3; (case md3 => exact HO.out); (case mf3 => exact HH.out); (case mg3 => exact rfl); (case mh3 => omega); intro v2 w2 ho2; replace ho2 := Lib.hid ho2) | (at_builtin; refine wpList_strM rfl _ _ rfl w _ ?nl3 rfl rs rfl ?nd3 ?nh3 ?nj3; (case nd3 => exact ho2.out); (case nh3 => exact HZ.out); intro v3 w3 ho3; replace ho3 := Lib.hid ho3))
          go_meet
          exact hfin.out _ _ (by rw [← HN.out]; exact ho3.out)
  case rest =>
    clear hL0 s1 _m1 _f1
    obtain ⟨wa, hwa⟩ : ∃ x : World, x = wc := ⟨wc, rfl⟩
    subst hwa
    unfold Laid at hcut
    obtain ⟨cs, hne, hfl, hc, hel, hm⟩ := hcut
    have hr1 := Im.enc_run a0.size [98, 101, 104, 105, 110, 100] cs [] Im.start hne rfl rfl hc (by rw [hfl, blen]; show 0 + _ ≤ _; omega)
    have hr2 := Im.enc_run a0.size [] cs [] Im.start hne rfl rfl hc (by rw [hfl, blen]; show 0 + _ ≤ _; omega)
    rw [List.nil_append, List.append_nil] at hr2
    rw [List.nil_append] at hr1
    rw [hfl, List.nil_append] at hr1 hr2
    rw [blen] at hel
    generalize Im.enc cs = E at *
    have esz : (ByteArray.mk E.toArray).size = E.length := by simp [ByteArray.size]
    have ebs : (⟨E.toArray⟩ ++ ⟨#[98, 101, 104, 105, 110, 100]⟩ : ByteArray).data.toList = E ++ [98, 101, 104, 105, 110, 100] := by rw [str_app]
    rw [← ebs] at hr1
    have H1 := fun w => Lib.hid (one_run a0.size (⟨E.toArray⟩ ++ ⟨#[98, 101, 104, 105, 110, 100]⟩) w _ 0 (by omega) (by rw [str_size, esz]; show E.length + 6 ≤ _; omega) hr1)
    have eo : ∀ c : Im.St, c.state = 3 → c.out = a0.data.toList → c.pos = 8 * E.length → ∀ w o w', OneIn c 0 w o w' → o = .returned (.tuple #[.string a0, .int .i64 (E.length : Int), .int .i64 0]) ∧ Below w.heap.size w w' := by
      intro c h3 ho hp w o w' ⟨h1, h2⟩
      have n1 : oneO c 0 = a0.data.toList := by rw [← ho]; exact if_pos ⟨rfl, h3⟩
      have n2 : oneN c 0 = E.length := by
        have : oneN c 0 = c.pos / 8 := if_pos ⟨rfl, h3⟩
        omega
      have n3 : oneE c 0 = 0 := by unfold oneE; rw [if_neg (by simp), if_pos h3]
      rw [n1, n2, n3] at h1
      exact ⟨h1, h2⟩
    have hcv := conv_own hm.out
    have hcv2 := fun w' hb => conv_own (hm.below (w' := w') hb).out
    obtain ⟨f, o2, n2, H2, hf⟩ : ∃ f o2 n2, (∀ w, Hid (Calls Try.prog 27 #[.string ⟨E.toArray⟩, .int .i64 ((a0.size : Int) - 1)] w fun o w' => o = .returned (.tuple #[.string o2, .int .i64 n2, .int .i64 f]) ∧ Below w.heap.size w w')) ∧ ((f == 93) = true ∨ (f = 1 ∧ a0.size = 0)) := by
      by_cases h0 : a0.size = 0
      · exact ⟨1, _, _, fun w => Lib.hid ((one_neg ((a0.size : Int) - 1) ⟨E.toArray⟩ w (by omega)).mono fun o w' h => ⟨h.1, by rw [← h.2]; exact Below.refl _ _⟩), .inr ⟨rfl, h0⟩⟩
      · obtain ⟨c2, hr3⟩ := (hr2.less rfl rfl (k := a0.size - 1) (Nat.zero_le _) (Nat.zero_le _) (Nat.zero_le _)).2 (by show a0.size - 1 < (a0.data.toList).length; rw [blen]; omega)
        have ei : ((a0.size : Int) - 1) = ((a0.size - 1 : Nat) : Int) := by omega
        have hx : oneE c2 93 = 93 := if_pos (by omega)
        refine ⟨93, ⟨(oneO c2 93).toArray⟩, (oneN c2 93 : Int), fun w => Lib.hid ?_, .inl rfl⟩
        rw [ei]
        have := one_run (a0.size - 1) ⟨E.toArray⟩ w c2 93 (by omega) (by rw [esz]; omega) hr3
        unfold OneIn at this
        rw [hx] at this
        exact this
    have H1' := fun w => Lib.hid ((H1 w).out.mono fun o w' h => eo _ rfl rfl (by simp) _ _ _ h)
    clear hr1 hr2 H1 ebs eo
    have hmb := Lib.hid hm.bel
    have hcv3 := fun w' hb => Lib.hid (hcv2 w' hb)
    obtain ⟨a5, cap5, hv5, _⟩ := hm.out.slice
    subst hv5
    clear hc hne hfl hm hcv2
    have hes : (ByteArray.mk E.toArray).size ≤ 70000 := by rw [esz]; omega
    generalize hee : (ByteArray.mk E.toArray) = es at *
    clear hee esz hel
    generalize E.length = el at *
    rcases hf with hf | ⟨rfl, hf⟩
    · go_wp2_with (first | (go_at_call_of 27 (Value.int IntKind.i64 (a0.size : Int)); refine (H1' _).out.mono ?_; rintro o w3 ⟨rfl, hb3⟩; have hcv4 := (hcv3 _ hb3).out) | (go_at_call 27; refine (H2 _).out.mono ?_; rintro o w4 ⟨rfl, hb4⟩) | (go_at_call 25; refine (HF _).out.mono ?_; rintro e w' ⟨rfl, hb⟩))
      go_ret
      exact ⟨rfl, belThen (belThen (belThen hmb.out hb3) hb4) hb⟩
    · have e2 : ((a0.size : Int) == 0) = true := by simp [hf]
      have e3 : decide ((a0.size : Int) = 0) = true := by simp [hf]
      have e4 : decide (a0.size = 0) = true := by simp [hf]
      clear hf
      go_wp2_with (first | (go_at_call_of 27 (Value.int IntKind.i64 (a0.size : Int)); refine (H1' _).out.mono ?_; rintro o w3 ⟨rfl, hb3⟩; have hcv4 := (hcv3 _ hb3).out) | (go_at_call 27; refine (H2 _).out.mono ?_; rintro o w4 ⟨rfl, hb4⟩) | (go_at_call 25; refine (HF _).out.mono ?_; rintro e w' ⟨rfl, hb⟩))
      go_ret
      exact ⟨rfl, belThen (belThen (belThen hmb.out hb3) hb4) hb⟩
end Go.Proofs.Ytcjcmlnbchmnnaa
