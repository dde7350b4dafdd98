/-
  No cell of these rows narrows 'for every input' (looked for: loops, veiled, ifaces, maps, wideKeys, modest, calm, conditions, laid).
  DERIVED. THE GIVEN ROWS OF THIS SEAT. 11 by the template 'for every input the law returns true; each argument reads behind the call as it read before'; 0 by the template 'total and deterministic' (their statements: YtcjcmlnbchmnnaaTotals.lean).
  GIVEN WITH THE SEED: the statements are not yours to turn. If you find one false, say at which input.
  Laid BY PROGRAM, IN A SANDBOX (cutbox-rows.mjs): the forced cells as the released guide's own fill.sh prints them over the translation f93fe3cd0103c93f… (all of the seat's roots in one cut). By AI agents, Wed Nov 11 2026. No macro, syntax, notation, axiom, sorry.
-/
import Derived.Test.YtcjcmlnbchmnnaaChecked
import GoSem.Claim
import GoSem.ClaimJoined
import GoSem.ClaimMapViews
import Derived.JoinedTies
import Derived.KernelRfl
namespace Go.Proofs.Ytcjcmlnbchmnnaa
/- THE CELL 'sum', in the pinned program and in every row, IS THE sha256 OF THE DUMP (.gsa) THAT YtcjcmlnbchmnnaaProg.lean LOADS. Nothing in Lean hashes anything: it is a label: what it is worth is what the hold of that sum in a sandbox is worth. -/
noncomputable def Try.pinned : Pinned := { name := "ytcjcmlnbchmnnaa", sum := "f93fe3cd0103c93f6ad0b1da4a3b01cb04a4d2fd080ccd840978b096eb87da74", checked := Try.checked }
namespace Rows
def none {H : Type} : Left H := { results := [], args := [] }

/-- 'farrierlaw10.GzipFields': WHATEVER THE INPUT: true; the input reads as it did. -/
def gzipFieldsSpec : ChangeSpec := { name := "gzipFields", fn := fun _ => fun
  | [d1, d2, d3] => { results := [.lit (.bool true)], args := [d1, d2, d3] }
  | _ => none }
def gzipFieldsRow : OpenClaim := { program := "ytcjcmlnbchmnnaa", sum := "f93fe3cd0103c93f6ad0b1da4a3b01cb04a4d2fd080ccd840978b096eb87da74", func := "farrier/farrierlaw10.GzipFields", spec := "gzipFields", inPlace := ["internal/bytealg.IndexByteString"], unfollowed := true, recurses := true, plainKeys := false, apart := false }
def GzipFieldsSaid : Prop := gzipFieldsRow.holds Try.pinned (OpenSpec.ofChange gzipFieldsSpec)

/-- ITS FALSE NEIGHBOUR: 'it returns false'. Refute it at one input. -/
def gzipFieldsWrong : ChangeSpec := { name := "gzipFields", fn := fun _ => fun
  | [d1, d2, d3] => { results := [.lit (.bool false)], args := [d1, d2, d3] }
  | _ => none }
def GzipFieldsWrongFalsely : Prop := gzipFieldsRow.holds Try.pinned (OpenSpec.ofChange gzipFieldsWrong)

/-- 'farrierlaw10.GzipGrows': WHATEVER THE INPUT: true; the input reads as it did. -/
def gzipGrowsSpec : ChangeSpec := { name := "gzipGrows", fn := fun _ => fun
  | [d1, d2, d3] => { results := [.lit (.bool true)], args := [d1, d2, d3] }
  | _ => none }
def gzipGrowsRow : OpenClaim := { program := "ytcjcmlnbchmnnaa", sum := "f93fe3cd0103c93f6ad0b1da4a3b01cb04a4d2fd080ccd840978b096eb87da74", func := "farrier/farrierlaw10.GzipGrows", spec := "gzipGrows", inPlace := ["internal/bytealg.IndexByteString"], unfollowed := true, recurses := true, plainKeys := false, apart := false }
def GzipGrowsSaid : Prop := gzipGrowsRow.holds Try.pinned (OpenSpec.ofChange gzipGrowsSpec)

/-- ITS FALSE NEIGHBOUR: 'it returns false'. Refute it at one input. -/
def gzipGrowsWrong : ChangeSpec := { name := "gzipGrows", fn := fun _ => fun
  | [d1, d2, d3] => { results := [.lit (.bool false)], args := [d1, d2, d3] }
  | _ => none }
def GzipGrowsWrongFalsely : Prop := gzipGrowsRow.holds Try.pinned (OpenSpec.ofChange gzipGrowsWrong)

/-- 'farrierlaw09.InflateCuts': WHATEVER THE INPUT: true; the input reads as it did. -/
def inflateCutsSpec : ChangeSpec := { name := "inflateCuts", fn := fun _ => fun
  | [d1, d2, d3] => { results := [.lit (.bool true)], args := [d1, d2, d3] }
  | _ => none }
def inflateCutsRow : OpenClaim := { program := "ytcjcmlnbchmnnaa", sum := "f93fe3cd0103c93f6ad0b1da4a3b01cb04a4d2fd080ccd840978b096eb87da74", func := "farrier/farrierlaw09.InflateCuts", spec := "inflateCuts", unfollowed := true, recurses := true, plainKeys := false, apart := false }
def InflateCutsSaid : Prop := inflateCutsRow.holds Try.pinned (OpenSpec.ofChange inflateCutsSpec)

/-- ITS FALSE NEIGHBOUR: 'it returns false'. Refute it at one input. -/
def inflateCutsWrong : ChangeSpec := { name := "inflateCuts", fn := fun _ => fun
  | [d1, d2, d3] => { results := [.lit (.bool false)], args := [d1, d2, d3] }
  | _ => none }
def InflateCutsWrongFalsely : Prop := inflateCutsRow.holds Try.pinned (OpenSpec.ofChange inflateCutsWrong)

/-- 'farrierlaw09.InflateStores': WHATEVER THE INPUT: true; the input reads as it did. -/
def inflateStoresSpec : ChangeSpec := { name := "inflateStores", fn := fun _ => fun
  | [d1, d2] => { results := [.lit (.bool true)], args := [d1, d2] }
  | _ => none }
def inflateStoresRow : OpenClaim := { program := "ytcjcmlnbchmnnaa", sum := "f93fe3cd0103c93f6ad0b1da4a3b01cb04a4d2fd080ccd840978b096eb87da74", func := "farrier/farrierlaw09.InflateStores", spec := "inflateStores", unfollowed := true, recurses := true, plainKeys := false, apart := false }
def InflateStoresSaid : Prop := inflateStoresRow.holds Try.pinned (OpenSpec.ofChange inflateStoresSpec)

/-- ITS FALSE NEIGHBOUR: 'it returns false'. Refute it at one input. -/
def inflateStoresWrong : ChangeSpec := { name := "inflateStores", fn := fun _ => fun
  | [d1, d2] => { results := [.lit (.bool false)], args := [d1, d2] }
  | _ => none }
def InflateStoresWrongFalsely : Prop := inflateStoresRow.holds Try.pinned (OpenSpec.ofChange inflateStoresWrong)

/-- 'farrierlaw09.InflateLess': WHATEVER THE INPUT: true; the input reads as it did. -/
def inflateLessSpec : ChangeSpec := { name := "inflateLess", fn := fun _ => fun
  | [d1, d2] => { results := [.lit (.bool true)], args := [d1, d2] }
  | _ => none }
def inflateLessRow : OpenClaim := { program := "ytcjcmlnbchmnnaa", sum := "f93fe3cd0103c93f6ad0b1da4a3b01cb04a4d2fd080ccd840978b096eb87da74", func := "farrier/farrierlaw09.InflateLess", spec := "inflateLess", unfollowed := true, recurses := true, plainKeys := false, apart := false }
def InflateLessSaid : Prop := inflateLessRow.holds Try.pinned (OpenSpec.ofChange inflateLessSpec)

/-- ITS FALSE NEIGHBOUR: 'it returns false'. Refute it at one input. -/
def inflateLessWrong : ChangeSpec := { name := "inflateLess", fn := fun _ => fun
  | [d1, d2] => { results := [.lit (.bool false)], args := [d1, d2] }
  | _ => none }
def InflateLessWrongFalsely : Prop := inflateLessRow.holds Try.pinned (OpenSpec.ofChange inflateLessWrong)

/-- 'farrierlaw09.InflateBytes': WHATEVER THE INPUT: true; the input reads as it did. -/
def inflateBytesSpec : ChangeSpec := { name := "inflateBytes", fn := fun _ => fun
  | [d] => { results := [.lit (.bool true)], args := [d] }
  | _ => none }
def inflateBytesRow : OpenClaim := { program := "ytcjcmlnbchmnnaa", sum := "f93fe3cd0103c93f6ad0b1da4a3b01cb04a4d2fd080ccd840978b096eb87da74", func := "farrier/farrierlaw09.InflateBytes", spec := "inflateBytes", unfollowed := true, recurses := true, plainKeys := false, apart := false }
def InflateBytesSaid : Prop := inflateBytesRow.holds Try.pinned (OpenSpec.ofChange inflateBytesSpec)

/-- ITS FALSE NEIGHBOUR: 'it returns false'. Refute it at one input. -/
def inflateBytesWrong : ChangeSpec := { name := "inflateBytes", fn := fun _ => fun
  | [d] => { results := [.lit (.bool false)], args := [d] }
  | _ => none }
def InflateBytesWrongFalsely : Prop := inflateBytesRow.holds Try.pinned (OpenSpec.ofChange inflateBytesWrong)

/-- 'farrierlaw09.InflateRuns': WHATEVER THE INPUT: true; the input reads as it did. -/
def inflateRunsSpec : ChangeSpec := { name := "inflateRuns", fn := fun _ => fun
  | [d1, d2, d3] => { results := [.lit (.bool true)], args := [d1, d2, d3] }
  | _ => none }
def inflateRunsRow : OpenClaim := { program := "ytcjcmlnbchmnnaa", sum := "f93fe3cd0103c93f6ad0b1da4a3b01cb04a4d2fd080ccd840978b096eb87da74", func := "farrier/farrierlaw09.InflateRuns", spec := "inflateRuns", unfollowed := true, recurses := true, plainKeys := false, apart := false }
def InflateRunsSaid : Prop := inflateRunsRow.holds Try.pinned (OpenSpec.ofChange inflateRunsSpec)

/-- ITS FALSE NEIGHBOUR: 'it returns false'. Refute it at one input. -/
def inflateRunsWrong : ChangeSpec := { name := "inflateRuns", fn := fun _ => fun
  | [d1, d2, d3] => { results := [.lit (.bool false)], args := [d1, d2, d3] }
  | _ => none }
def InflateRunsWrongFalsely : Prop := inflateRunsRow.holds Try.pinned (OpenSpec.ofChange inflateRunsWrong)

/-- 'farrierlaw09.InflateGrows': WHATEVER THE INPUT: true; the input reads as it did. -/
def inflateGrowsSpec : ChangeSpec := { name := "inflateGrows", fn := fun _ => fun
  | [d1, d2, d3] => { results := [.lit (.bool true)], args := [d1, d2, d3] }
  | _ => none }
def inflateGrowsRow : OpenClaim := { program := "ytcjcmlnbchmnnaa", sum := "f93fe3cd0103c93f6ad0b1da4a3b01cb04a4d2fd080ccd840978b096eb87da74", func := "farrier/farrierlaw09.InflateGrows", spec := "inflateGrows", unfollowed := true, recurses := true, plainKeys := false, apart := false }
def InflateGrowsSaid : Prop := inflateGrowsRow.holds Try.pinned (OpenSpec.ofChange inflateGrowsSpec)

/-- ITS FALSE NEIGHBOUR: 'it returns false'. Refute it at one input. -/
def inflateGrowsWrong : ChangeSpec := { name := "inflateGrows", fn := fun _ => fun
  | [d1, d2, d3] => { results := [.lit (.bool false)], args := [d1, d2, d3] }
  | _ => none }
def InflateGrowsWrongFalsely : Prop := inflateGrowsRow.holds Try.pinned (OpenSpec.ofChange inflateGrowsWrong)

/-- 'farrierlaw10.GzipOnes': WHATEVER THE INPUT: true; the input reads as it did. -/
def gzipOnesSpec : ChangeSpec := { name := "gzipOnes", fn := fun _ => fun
  | [d1, d2] => { results := [.lit (.bool true)], args := [d1, d2] }
  | _ => none }
def gzipOnesRow : OpenClaim := { program := "ytcjcmlnbchmnnaa", sum := "f93fe3cd0103c93f6ad0b1da4a3b01cb04a4d2fd080ccd840978b096eb87da74", func := "farrier/farrierlaw10.GzipOnes", spec := "gzipOnes", inPlace := ["internal/bytealg.IndexByteString"], unfollowed := true, recurses := true, plainKeys := false, apart := false }
def GzipOnesSaid : Prop := gzipOnesRow.holds Try.pinned (OpenSpec.ofChange gzipOnesSpec)

/-- ITS FALSE NEIGHBOUR: 'it returns false'. Refute it at one input. -/
def gzipOnesWrong : ChangeSpec := { name := "gzipOnes", fn := fun _ => fun
  | [d1, d2] => { results := [.lit (.bool false)], args := [d1, d2] }
  | _ => none }
def GzipOnesWrongFalsely : Prop := gzipOnesRow.holds Try.pinned (OpenSpec.ofChange gzipOnesWrong)

/-- 'farrierlaw10.GzipCuts': WHATEVER THE INPUT: true; the input reads as it did. -/
def gzipCutsSpec : ChangeSpec := { name := "gzipCuts", fn := fun _ => fun
  | [d1, d2, d3] => { results := [.lit (.bool true)], args := [d1, d2, d3] }
  | _ => none }
def gzipCutsRow : OpenClaim := { program := "ytcjcmlnbchmnnaa", sum := "f93fe3cd0103c93f6ad0b1da4a3b01cb04a4d2fd080ccd840978b096eb87da74", func := "farrier/farrierlaw10.GzipCuts", spec := "gzipCuts", inPlace := ["internal/bytealg.IndexByteString"], unfollowed := true, recurses := true, plainKeys := false, apart := false }
def GzipCutsSaid : Prop := gzipCutsRow.holds Try.pinned (OpenSpec.ofChange gzipCutsSpec)

/-- ITS FALSE NEIGHBOUR: 'it returns false'. Refute it at one input. -/
def gzipCutsWrong : ChangeSpec := { name := "gzipCuts", fn := fun _ => fun
  | [d1, d2, d3] => { results := [.lit (.bool false)], args := [d1, d2, d3] }
  | _ => none }
def GzipCutsWrongFalsely : Prop := gzipCutsRow.holds Try.pinned (OpenSpec.ofChange gzipCutsWrong)

/-- 'farrierlaw10.GzipBack': WHATEVER THE INPUT: true; the input reads as it did. -/
def gzipBackSpec : ChangeSpec := { name := "gzipBack", fn := fun _ => fun
  | [d1, d2, d3] => { results := [.lit (.bool true)], args := [d1, d2, d3] }
  | _ => none }
def gzipBackRow : OpenClaim := { program := "ytcjcmlnbchmnnaa", sum := "f93fe3cd0103c93f6ad0b1da4a3b01cb04a4d2fd080ccd840978b096eb87da74", func := "farrier/farrierlaw10.GzipBack", spec := "gzipBack", inPlace := ["internal/bytealg.IndexByteString"], unfollowed := true, recurses := true, plainKeys := false, apart := false }
def GzipBackSaid : Prop := gzipBackRow.holds Try.pinned (OpenSpec.ofChange gzipBackSpec)

/-- ITS FALSE NEIGHBOUR: 'it returns false'. Refute it at one input. -/
def gzipBackWrong : ChangeSpec := { name := "gzipBack", fn := fun _ => fun
  | [d1, d2, d3] => { results := [.lit (.bool false)], args := [d1, d2, d3] }
  | _ => none }
def GzipBackWrongFalsely : Prop := gzipBackRow.holds Try.pinned (OpenSpec.ofChange gzipBackWrong)

/- THE SECOND FORM. 'bulk': how many values and letters a reading holds, each counted each time it is reached (what is shared counts as often as it is met; a slice's spare places count too). A statement '..UptoSaid' is the law's where the arguments, and the package variables that the reading takes, are together of bulk at most 1048576: NARROWER than '..Said'. Prove '..Said' where nothing that the law and all that it calls make is longer than what came in: it says more and counts as full. Else prove '..UptoSaid'. A law counts once. -/
mutual
def uptoBulk {H : Type} : DataW H → Nat
  | .lit (.string bytes) => bytes.length + 1
  | .lit _ => 1
  | .nil => 1
  | .ptr d => uptoBulk d + 1
  | .slice elems spare => uptoBulkAll elems + uptoBulkAll spare + 1
  | .agg parts => uptoBulkAll parts + 1
  | .iface _ d => uptoBulk d + 1
  | .map entries => uptoBulkEntries entries + 1
  | .held _ => 1
def uptoBulkAll {H : Type} : List (DataW H) → Nat
  | [] => 0
  | d :: r => uptoBulk d + uptoBulkAll r
def uptoBulkEntries {H : Type} : List (Lit × DataW H) → Nat
  | [] => 0
  | x :: r => uptoBulkEntry x + uptoBulkEntries r
def uptoBulkEntry {H : Type} : Lit × DataW H → Nat
  | (.string bytes, d) => bytes.length + uptoBulk d + 1
  | (_, d) => uptoBulk d + 1
 end
def uptoSmall : (H : Type) → List (DataW H) → Bool := fun _ ds => decide (uptoBulkAll ds ≤ 1048576)
def OpenSpec.upto (s : _root_.Go.ChangeSpec) : _root_.Go.OpenSpec := { _root_.Go.OpenSpec.ofChange s with cond := some uptoSmall }

/-- 'farrierlaw10.GzipFields', WHERE WHAT IT READS IS OF BULK AT MOST 1048576: true; the input reads as it did. -/
def gzipFieldsUptoRow : OpenClaim := { program := "ytcjcmlnbchmnnaa", sum := "f93fe3cd0103c93f6ad0b1da4a3b01cb04a4d2fd080ccd840978b096eb87da74", func := "farrier/farrierlaw10.GzipFields", spec := "gzipFields", inPlace := ["internal/bytealg.IndexByteString"], unfollowed := true, recurses := true, plainKeys := false, apart := false, narrowed := true }
def GzipFieldsUptoSaid : Prop := gzipFieldsUptoRow.holds Try.pinned (OpenSpec.upto gzipFieldsSpec)

/-- 'farrierlaw10.GzipGrows', WHERE WHAT IT READS IS OF BULK AT MOST 1048576: true; the input reads as it did. -/
def gzipGrowsUptoRow : OpenClaim := { program := "ytcjcmlnbchmnnaa", sum := "f93fe3cd0103c93f6ad0b1da4a3b01cb04a4d2fd080ccd840978b096eb87da74", func := "farrier/farrierlaw10.GzipGrows", spec := "gzipGrows", inPlace := ["internal/bytealg.IndexByteString"], unfollowed := true, recurses := true, plainKeys := false, apart := false, narrowed := true }
def GzipGrowsUptoSaid : Prop := gzipGrowsUptoRow.holds Try.pinned (OpenSpec.upto gzipGrowsSpec)

/-- 'farrierlaw09.InflateCuts', WHERE WHAT IT READS IS OF BULK AT MOST 1048576: true; the input reads as it did. -/
def inflateCutsUptoRow : OpenClaim := { program := "ytcjcmlnbchmnnaa", sum := "f93fe3cd0103c93f6ad0b1da4a3b01cb04a4d2fd080ccd840978b096eb87da74", func := "farrier/farrierlaw09.InflateCuts", spec := "inflateCuts", unfollowed := true, recurses := true, plainKeys := false, apart := false, narrowed := true }
def InflateCutsUptoSaid : Prop := inflateCutsUptoRow.holds Try.pinned (OpenSpec.upto inflateCutsSpec)

/-- 'farrierlaw09.InflateStores', WHERE WHAT IT READS IS OF BULK AT MOST 1048576: true; the input reads as it did. -/
def inflateStoresUptoRow : OpenClaim := { program := "ytcjcmlnbchmnnaa", sum := "f93fe3cd0103c93f6ad0b1da4a3b01cb04a4d2fd080ccd840978b096eb87da74", func := "farrier/farrierlaw09.InflateStores", spec := "inflateStores", unfollowed := true, recurses := true, plainKeys := false, apart := false, narrowed := true }
def InflateStoresUptoSaid : Prop := inflateStoresUptoRow.holds Try.pinned (OpenSpec.upto inflateStoresSpec)

/-- 'farrierlaw09.InflateLess', WHERE WHAT IT READS IS OF BULK AT MOST 1048576: true; the input reads as it did. -/
def inflateLessUptoRow : OpenClaim := { program := "ytcjcmlnbchmnnaa", sum := "f93fe3cd0103c93f6ad0b1da4a3b01cb04a4d2fd080ccd840978b096eb87da74", func := "farrier/farrierlaw09.InflateLess", spec := "inflateLess", unfollowed := true, recurses := true, plainKeys := false, apart := false, narrowed := true }
def InflateLessUptoSaid : Prop := inflateLessUptoRow.holds Try.pinned (OpenSpec.upto inflateLessSpec)

/-- 'farrierlaw09.InflateBytes', WHERE WHAT IT READS IS OF BULK AT MOST 1048576: true; the input reads as it did. -/
def inflateBytesUptoRow : OpenClaim := { program := "ytcjcmlnbchmnnaa", sum := "f93fe3cd0103c93f6ad0b1da4a3b01cb04a4d2fd080ccd840978b096eb87da74", func := "farrier/farrierlaw09.InflateBytes", spec := "inflateBytes", unfollowed := true, recurses := true, plainKeys := false, apart := false, narrowed := true }
def InflateBytesUptoSaid : Prop := inflateBytesUptoRow.holds Try.pinned (OpenSpec.upto inflateBytesSpec)

/-- 'farrierlaw09.InflateRuns', WHERE WHAT IT READS IS OF BULK AT MOST 1048576: true; the input reads as it did. -/
def inflateRunsUptoRow : OpenClaim := { program := "ytcjcmlnbchmnnaa", sum := "f93fe3cd0103c93f6ad0b1da4a3b01cb04a4d2fd080ccd840978b096eb87da74", func := "farrier/farrierlaw09.InflateRuns", spec := "inflateRuns", unfollowed := true, recurses := true, plainKeys := false, apart := false, narrowed := true }
def InflateRunsUptoSaid : Prop := inflateRunsUptoRow.holds Try.pinned (OpenSpec.upto inflateRunsSpec)

/-- 'farrierlaw09.InflateGrows', WHERE WHAT IT READS IS OF BULK AT MOST 1048576: true; the input reads as it did. -/
def inflateGrowsUptoRow : OpenClaim := { program := "ytcjcmlnbchmnnaa", sum := "f93fe3cd0103c93f6ad0b1da4a3b01cb04a4d2fd080ccd840978b096eb87da74", func := "farrier/farrierlaw09.InflateGrows", spec := "inflateGrows", unfollowed := true, recurses := true, plainKeys := false, apart := false, narrowed := true }
def InflateGrowsUptoSaid : Prop := inflateGrowsUptoRow.holds Try.pinned (OpenSpec.upto inflateGrowsSpec)

/-- 'farrierlaw10.GzipOnes', WHERE WHAT IT READS IS OF BULK AT MOST 1048576: true; the input reads as it did. -/
def gzipOnesUptoRow : OpenClaim := { program := "ytcjcmlnbchmnnaa", sum := "f93fe3cd0103c93f6ad0b1da4a3b01cb04a4d2fd080ccd840978b096eb87da74", func := "farrier/farrierlaw10.GzipOnes", spec := "gzipOnes", inPlace := ["internal/bytealg.IndexByteString"], unfollowed := true, recurses := true, plainKeys := false, apart := false, narrowed := true }
def GzipOnesUptoSaid : Prop := gzipOnesUptoRow.holds Try.pinned (OpenSpec.upto gzipOnesSpec)

/-- 'farrierlaw10.GzipCuts', WHERE WHAT IT READS IS OF BULK AT MOST 1048576: true; the input reads as it did. -/
def gzipCutsUptoRow : OpenClaim := { program := "ytcjcmlnbchmnnaa", sum := "f93fe3cd0103c93f6ad0b1da4a3b01cb04a4d2fd080ccd840978b096eb87da74", func := "farrier/farrierlaw10.GzipCuts", spec := "gzipCuts", inPlace := ["internal/bytealg.IndexByteString"], unfollowed := true, recurses := true, plainKeys := false, apart := false, narrowed := true }
def GzipCutsUptoSaid : Prop := gzipCutsUptoRow.holds Try.pinned (OpenSpec.upto gzipCutsSpec)

/-- 'farrierlaw10.GzipBack', WHERE WHAT IT READS IS OF BULK AT MOST 1048576: true; the input reads as it did. -/
def gzipBackUptoRow : OpenClaim := { program := "ytcjcmlnbchmnnaa", sum := "f93fe3cd0103c93f6ad0b1da4a3b01cb04a4d2fd080ccd840978b096eb87da74", func := "farrier/farrierlaw10.GzipBack", spec := "gzipBack", inPlace := ["internal/bytealg.IndexByteString"], unfollowed := true, recurses := true, plainKeys := false, apart := false, narrowed := true }
def GzipBackUptoSaid : Prop := gzipBackUptoRow.holds Try.pinned (OpenSpec.upto gzipBackSpec)

end Rows
end Go.Proofs.Ytcjcmlnbchmnnaa
