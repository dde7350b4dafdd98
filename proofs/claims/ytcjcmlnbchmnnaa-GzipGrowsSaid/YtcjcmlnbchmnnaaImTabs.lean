/- Plain mathematics of layer 9: the tables that a block's beginning comes to; what it leaves as it was (no program in sight). -/
import Derived.Test.YtcjcmlnbchmnnaaImE
import Derived.Test.YtcjcmlnbchmnnaaITables
namespace Go.Proofs.Ytcjcmlnbchmnnaa.Im

theorem tabsP_short {s : List UInt8} {a b : St} (h : tabsP s a = .ok b) : Hm.Short b.lit ∧ b.lit.length ≤ 288 ∧ Hm.Short b.dist ∧ b.dist.length ≤ 288 := by
  unfold tabsP at h
  cases h1 : bitsP s a.pos 5 with
  | error e => rw [h1] at h; cases h
  | ok v =>
  obtain ⟨hl, p1⟩ := v
  rw [h1] at h
  have b1 := bitsP_ok h1
  dsimp only at h
  cases h2 : bitsP s p1 5 with
  | error e => rw [h2] at h; cases h
  | ok v =>
  obtain ⟨hd, p2⟩ := v
  rw [h2] at h
  have b2 := bitsP_ok h2
  dsimp only at h
  cases h3 : bitsP s p2 4 with
  | error e => rw [h3] at h; cases h
  | ok v =>
  obtain ⟨hc, p3⟩ := v
  rw [h3] at h
  have b3 := bitsP_ok h3
  dsimp only at h
  by_cases c1 : ¬ (hl ≤ 29 ∧ hd ≤ 29)
  · rw [if_pos c1] at h; cases h
  rw [if_neg c1] at h
  cases h4 : ownP s (order.take (hc + 4)) (List.replicate 19 0) p3 with
  | error e => rw [h4] at h; cases h
  | ok v =>
  obtain ⟨own, p4⟩ := v
  rw [h4] at h
  have b4 := ownP_pos _ _ _ _ _ h4
  have b5 := ownP_ok _ _ _ _ _ h4
  dsimp only at h
  by_cases c2 : Hm.err own ≠ 0
  · rw [if_pos c2] at h; cases h
  rw [if_neg c2] at h
  cases h5 : lensP own s (hl + 257 + hd + 1) (hl + 257 + hd + 2) p4 [] with
  | error e => rw [h5] at h; cases h
  | ok v =>
  obtain ⟨l, p5⟩ := v
  rw [h5] at h
  have b6 := lensP_ok (by rw [b5.1, List.length_replicate]; omega) _ _ _ _ _ h5 (Nat.zero_le _) (fun n hn => by cases hn) (b4.2 b3.2.2)
  dsimp only at h
  by_cases c3 : l.getD 256 0 = 0
  · rw [if_pos c3] at h; cases h
  rw [if_neg c3] at h
  by_cases c4 : Hm.err (l.take (hl + 257)) ≠ 0 ∨ Hm.err (l.drop (hl + 257)) ≠ 0
  · rw [if_pos c4] at h; cases h
  rw [if_neg c4] at h
  cases h
  refine ⟨fun n hn => b6.2.1 n (List.mem_of_mem_take hn), ?_, fun n hn => b6.2.1 n (List.mem_of_mem_drop hn), ?_⟩
  · rw [List.length_take]; omega
  · rw [List.length_drop]; omega
theorem begP_short {s : List UInt8} {a b : St} (h : begP s a = .ok b) : b.out = a.out ∧ (b.state = 2 → Hm.Short b.lit ∧ b.lit.length ≤ 288 ∧ Hm.Short b.dist ∧ b.dist.length ≤ 288) := by
  unfold begP at h
  cases h1 : bitsP s a.pos 1 with
  | error e => rw [h1] at h; cases h
  | ok v =>
  obtain ⟨x, p1⟩ := v
  rw [h1] at h
  dsimp only at h
  cases h2 : bitsP s p1 2 with
  | error e => rw [h2] at h; cases h
  | ok v =>
  obtain ⟨k, p2⟩ := v
  rw [h2] at h
  dsimp only at h
  by_cases c0 : k = 0
  · rw [if_pos c0] at h
    cases h3 : bitsP s ((p2 + 7) / 8 * 8) 16 with
    | error e => rw [h3] at h; cases h
    | ok v =>
    obtain ⟨n, p3⟩ := v
    rw [h3] at h
    dsimp only at h
    cases h4 : bitsP s p3 16 with
    | error e => rw [h4] at h; cases h
    | ok v =>
    obtain ⟨m, p4⟩ := v
    rw [h4] at h
    dsimp only at h
    by_cases c1 : n + m = 65535
    · rw [if_pos c1] at h; cases h; exact ⟨rfl, fun q => by cases q⟩
    · rw [if_neg c1] at h; cases h
  rw [if_neg c0] at h
  by_cases c1 : k = 1
  · rw [if_pos c1] at h; cases h
    exact ⟨rfl, fun _ => ⟨fixLit_short, by dsimp only; rw [fixLit_length]; omega, fixDist_short, by dsimp only; rw [fixDist_length]; omega⟩⟩
  rw [if_neg c1] at h
  by_cases c2 : k = 2
  · rw [if_pos c2] at h
    exact ⟨(tabsP_went h).2.2.2.1, fun _ => tabsP_short h⟩
  rw [if_neg c2] at h; cases h
end Go.Proofs.Ytcjcmlnbchmnnaa.Im
