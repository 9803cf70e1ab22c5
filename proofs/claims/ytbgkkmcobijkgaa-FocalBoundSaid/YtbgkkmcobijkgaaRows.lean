/-
  No cell of these rows narrows 'for every input' (looked for: loops, veiled, ifaces, maps, wideKeys, modest, calm, conditions, laid).
  DERIVED. THE GIVEN ROWS OF THIS SEAT. 12 by the template 'for every input the law returns true; each argument reads behind the call as it read before'; 0 by the template 'total and deterministic' (their statements: YtbgkkmcobijkgaaTotals.lean).
  GIVEN WITH THE SEED: the statements are not yours to turn. If you find one false, say at which input.
  Laid BY PROGRAM, IN A SANDBOX (cutbox-rows.mjs): the forced cells as the released guide's own fill.sh prints them over the translation 753de0256f3bf7f7… (all of the seat's roots in one cut). By AI agents, Wed Nov 11 2026. No macro, syntax, notation, axiom, sorry.
-/
import Derived.Test.YtbgkkmcobijkgaaChecked
import GoSem.Claim
import GoSem.ClaimJoined
import GoSem.ClaimMapViews
import Derived.JoinedTies
import Derived.KernelRfl
namespace Go.Proofs.Ytbgkkmcobijkgaa
/- THE CELL 'sum', in the pinned program and in every row, IS THE sha256 OF THE DUMP (.gsa) THAT YtbgkkmcobijkgaaProg.lean LOADS. Nothing in Lean hashes anything: it is a label: what it is worth is what the hold of that sum in a sandbox is worth. -/
noncomputable def Try.pinned : Pinned := { name := "ytbgkkmcobijkgaa", sum := "753de0256f3bf7f75b9403b06a52b6e6fd58dfc6bc8b4c7efa8006d96547688c", checked := Try.checked }
namespace Rows
def none {H : Type} : Left H := { results := [], args := [] }

/-- 'fellkeep.HierDoors': WHATEVER THE INPUT: true; the input reads as it did. -/
def hierDoorsSpec : ChangeSpec := { name := "hierDoors", fn := fun _ => fun
  | [d1, d2] => { results := [.lit (.bool true)], args := [d1, d2] }
  | _ => none }
def hierDoorsRow : OpenClaim := { program := "ytbgkkmcobijkgaa", sum := "753de0256f3bf7f75b9403b06a52b6e6fd58dfc6bc8b4c7efa8006d96547688c", func := "fellwalker/fellkeep.HierDoors", spec := "hierDoors", apart := false }
def HierDoorsSaid : Prop := hierDoorsRow.holds Try.pinned (OpenSpec.ofChange hierDoorsSpec)

/-- ITS FALSE NEIGHBOUR: 'it returns false'. Refute it at one input. -/
def hierDoorsWrong : ChangeSpec := { name := "hierDoors", fn := fun _ => fun
  | [d1, d2] => { results := [.lit (.bool false)], args := [d1, d2] }
  | _ => none }
def HierDoorsWrongFalsely : Prop := hierDoorsRow.holds Try.pinned (OpenSpec.ofChange hierDoorsWrong)

/-- 'fellkeep.StarPlain': WHATEVER THE INPUT: true; the input reads as it did. -/
def starPlainSpec : ChangeSpec := { name := "starPlain", fn := fun _ => fun
  | [d1, d2, d3] => { results := [.lit (.bool true)], args := [d1, d2, d3] }
  | _ => none }
def starPlainRow : OpenClaim := { program := "ytbgkkmcobijkgaa", sum := "753de0256f3bf7f75b9403b06a52b6e6fd58dfc6bc8b4c7efa8006d96547688c", func := "fellwalker/fellkeep.StarPlain", spec := "starPlain", unfollowed := true, recurses := true, apart := false }
def StarPlainSaid : Prop := starPlainRow.holds Try.pinned (OpenSpec.ofChange starPlainSpec)

/-- ITS FALSE NEIGHBOUR: 'it returns false'. Refute it at one input. -/
def starPlainWrong : ChangeSpec := { name := "starPlain", fn := fun _ => fun
  | [d1, d2, d3] => { results := [.lit (.bool false)], args := [d1, d2, d3] }
  | _ => none }
def StarPlainWrongFalsely : Prop := starPlainRow.holds Try.pinned (OpenSpec.ofChange starPlainWrong)

/-- 'fellkeep.StarSpares': WHATEVER THE INPUT: true; the input reads as it did. -/
def starSparesSpec : ChangeSpec := { name := "starSpares", fn := fun _ => fun
  | [d1, d2, d3, d4] => { results := [.lit (.bool true)], args := [d1, d2, d3, d4] }
  | _ => none }
def starSparesRow : OpenClaim := { program := "ytbgkkmcobijkgaa", sum := "753de0256f3bf7f75b9403b06a52b6e6fd58dfc6bc8b4c7efa8006d96547688c", func := "fellwalker/fellkeep.StarSpares", spec := "starSpares", unfollowed := true, recurses := true, apart := false }
def StarSparesSaid : Prop := starSparesRow.holds Try.pinned (OpenSpec.ofChange starSparesSpec)

/-- ITS FALSE NEIGHBOUR: 'it returns false'. Refute it at one input. -/
def starSparesWrong : ChangeSpec := { name := "starSpares", fn := fun _ => fun
  | [d1, d2, d3, d4] => { results := [.lit (.bool false)], args := [d1, d2, d3, d4] }
  | _ => none }
def StarSparesWrongFalsely : Prop := starSparesRow.holds Try.pinned (OpenSpec.ofChange starSparesWrong)

/-- 'fellkeep.WeighOne': WHATEVER THE INPUT: true; the input reads as it did. -/
def weighOneSpec : ChangeSpec := { name := "weighOne", fn := fun _ => fun
  | [d1, d2, d3, d4, d5] => { results := [.lit (.bool true)], args := [d1, d2, d3, d4, d5] }
  | _ => none }
def weighOneRow : OpenClaim := { program := "ytbgkkmcobijkgaa", sum := "753de0256f3bf7f75b9403b06a52b6e6fd58dfc6bc8b4c7efa8006d96547688c", func := "fellwalker/fellkeep.WeighOne", spec := "weighOne", unfollowed := true, recurses := true, apart := false }
def WeighOneSaid : Prop := weighOneRow.holds Try.pinned (OpenSpec.ofChange weighOneSpec)

/-- ITS FALSE NEIGHBOUR: 'it returns false'. Refute it at one input. -/
def weighOneWrong : ChangeSpec := { name := "weighOne", fn := fun _ => fun
  | [d1, d2, d3, d4, d5] => { results := [.lit (.bool false)], args := [d1, d2, d3, d4, d5] }
  | _ => none }
def WeighOneWrongFalsely : Prop := weighOneRow.holds Try.pinned (OpenSpec.ofChange weighOneWrong)

/-- 'fellkeep.HierInside': WHATEVER THE INPUT: true; the input reads as it did. -/
def hierInsideSpec : ChangeSpec := { name := "hierInside", fn := fun _ => fun
  | [d1, d2, d3, d4] => { results := [.lit (.bool true)], args := [d1, d2, d3, d4] }
  | _ => none }
def hierInsideRow : OpenClaim := { program := "ytbgkkmcobijkgaa", sum := "753de0256f3bf7f75b9403b06a52b6e6fd58dfc6bc8b4c7efa8006d96547688c", func := "fellwalker/fellkeep.HierInside", spec := "hierInside", unfollowed := true, recurses := true, apart := false }
def HierInsideSaid : Prop := hierInsideRow.holds Try.pinned (OpenSpec.ofChange hierInsideSpec)

/-- ITS FALSE NEIGHBOUR: 'it returns false'. Refute it at one input. -/
def hierInsideWrong : ChangeSpec := { name := "hierInside", fn := fun _ => fun
  | [d1, d2, d3, d4] => { results := [.lit (.bool false)], args := [d1, d2, d3, d4] }
  | _ => none }
def HierInsideWrongFalsely : Prop := hierInsideRow.holds Try.pinned (OpenSpec.ofChange hierInsideWrong)

/-- 'fellkeep.FocalMore': WHATEVER THE INPUT: true; the input reads as it did. -/
def focalMoreSpec : ChangeSpec := { name := "focalMore", fn := fun _ => fun
  | [d1, d2, d3, d4, d5, d6, d7] => { results := [.lit (.bool true)], args := [d1, d2, d3, d4, d5, d6, d7] }
  | _ => none }
def focalMoreRow : OpenClaim := { program := "ytbgkkmcobijkgaa", sum := "753de0256f3bf7f75b9403b06a52b6e6fd58dfc6bc8b4c7efa8006d96547688c", func := "fellwalker/fellkeep.FocalMore", spec := "focalMore", apart := false }
def FocalMoreSaid : Prop := focalMoreRow.holds Try.pinned (OpenSpec.ofChange focalMoreSpec)

/-- ITS FALSE NEIGHBOUR: 'it returns false'. Refute it at one input. -/
def focalMoreWrong : ChangeSpec := { name := "focalMore", fn := fun _ => fun
  | [d1, d2, d3, d4, d5, d6, d7] => { results := [.lit (.bool false)], args := [d1, d2, d3, d4, d5, d6, d7] }
  | _ => none }
def FocalMoreWrongFalsely : Prop := focalMoreRow.holds Try.pinned (OpenSpec.ofChange focalMoreWrong)

/-- 'fellkeep.HierSame': WHATEVER THE INPUT: true; the input reads as it did. -/
def hierSameSpec : ChangeSpec := { name := "hierSame", fn := fun _ => fun
  | [d1, d2, d3, d4] => { results := [.lit (.bool true)], args := [d1, d2, d3, d4] }
  | _ => none }
def hierSameRow : OpenClaim := { program := "ytbgkkmcobijkgaa", sum := "753de0256f3bf7f75b9403b06a52b6e6fd58dfc6bc8b4c7efa8006d96547688c", func := "fellwalker/fellkeep.HierSame", spec := "hierSame", unfollowed := true, recurses := true, apart := false }
def HierSameSaid : Prop := hierSameRow.holds Try.pinned (OpenSpec.ofChange hierSameSpec)

/-- ITS FALSE NEIGHBOUR: 'it returns false'. Refute it at one input. -/
def hierSameWrong : ChangeSpec := { name := "hierSame", fn := fun _ => fun
  | [d1, d2, d3, d4] => { results := [.lit (.bool false)], args := [d1, d2, d3, d4] }
  | _ => none }
def HierSameWrongFalsely : Prop := hierSameRow.holds Try.pinned (OpenSpec.ofChange hierSameWrong)

/-- 'fellkeep.StarLeast': WHATEVER THE INPUT: true; the input reads as it did. -/
def starLeastSpec : ChangeSpec := { name := "starLeast", fn := fun _ => fun
  | [d1, d2, d3, d4] => { results := [.lit (.bool true)], args := [d1, d2, d3, d4] }
  | _ => none }
def starLeastRow : OpenClaim := { program := "ytbgkkmcobijkgaa", sum := "753de0256f3bf7f75b9403b06a52b6e6fd58dfc6bc8b4c7efa8006d96547688c", func := "fellwalker/fellkeep.StarLeast", spec := "starLeast", unfollowed := true, recurses := true, apart := false }
def StarLeastSaid : Prop := starLeastRow.holds Try.pinned (OpenSpec.ofChange starLeastSpec)

/-- ITS FALSE NEIGHBOUR: 'it returns false'. Refute it at one input. -/
def starLeastWrong : ChangeSpec := { name := "starLeast", fn := fun _ => fun
  | [d1, d2, d3, d4] => { results := [.lit (.bool false)], args := [d1, d2, d3, d4] }
  | _ => none }
def StarLeastWrongFalsely : Prop := starLeastRow.holds Try.pinned (OpenSpec.ofChange starLeastWrong)

/-- 'fellkeep.WeighBound': WHATEVER THE INPUT: true; the input reads as it did. -/
def weighBoundSpec : ChangeSpec := { name := "weighBound", fn := fun _ => fun
  | [d1, d2, d3, d4, d5] => { results := [.lit (.bool true)], args := [d1, d2, d3, d4, d5] }
  | _ => none }
def weighBoundRow : OpenClaim := { program := "ytbgkkmcobijkgaa", sum := "753de0256f3bf7f75b9403b06a52b6e6fd58dfc6bc8b4c7efa8006d96547688c", func := "fellwalker/fellkeep.WeighBound", spec := "weighBound", unfollowed := true, recurses := true, apart := false }
def WeighBoundSaid : Prop := weighBoundRow.holds Try.pinned (OpenSpec.ofChange weighBoundSpec)

/-- ITS FALSE NEIGHBOUR: 'it returns false'. Refute it at one input. -/
def weighBoundWrong : ChangeSpec := { name := "weighBound", fn := fun _ => fun
  | [d1, d2, d3, d4, d5] => { results := [.lit (.bool false)], args := [d1, d2, d3, d4, d5] }
  | _ => none }
def WeighBoundWrongFalsely : Prop := weighBoundRow.holds Try.pinned (OpenSpec.ofChange weighBoundWrong)

/-- 'fellkeep.FocalBound': WHATEVER THE INPUT: true; the input reads as it did. -/
def focalBoundSpec : ChangeSpec := { name := "focalBound", fn := fun _ => fun
  | [d1, d2, d3, d4, d5, d6] => { results := [.lit (.bool true)], args := [d1, d2, d3, d4, d5, d6] }
  | _ => none }
def focalBoundRow : OpenClaim := { program := "ytbgkkmcobijkgaa", sum := "753de0256f3bf7f75b9403b06a52b6e6fd58dfc6bc8b4c7efa8006d96547688c", func := "fellwalker/fellkeep.FocalBound", spec := "focalBound", unfollowed := true, recurses := true, apart := false }
def FocalBoundSaid : Prop := focalBoundRow.holds Try.pinned (OpenSpec.ofChange focalBoundSpec)

/-- ITS FALSE NEIGHBOUR: 'it returns false'. Refute it at one input. -/
def focalBoundWrong : ChangeSpec := { name := "focalBound", fn := fun _ => fun
  | [d1, d2, d3, d4, d5, d6] => { results := [.lit (.bool false)], args := [d1, d2, d3, d4, d5, d6] }
  | _ => none }
def FocalBoundWrongFalsely : Prop := focalBoundRow.holds Try.pinned (OpenSpec.ofChange focalBoundWrong)

/-- 'fellkeep.TwinTurns': WHATEVER THE INPUT: true; the input reads as it did. -/
def twinTurnsSpec : ChangeSpec := { name := "twinTurns", fn := fun _ => fun
  | [d1, d2, d3] => { results := [.lit (.bool true)], args := [d1, d2, d3] }
  | _ => none }
def twinTurnsRow : OpenClaim := { program := "ytbgkkmcobijkgaa", sum := "753de0256f3bf7f75b9403b06a52b6e6fd58dfc6bc8b4c7efa8006d96547688c", func := "fellwalker/fellkeep.TwinTurns", spec := "twinTurns", apart := false }
def TwinTurnsSaid : Prop := twinTurnsRow.holds Try.pinned (OpenSpec.ofChange twinTurnsSpec)

/-- ITS FALSE NEIGHBOUR: 'it returns false'. Refute it at one input. -/
def twinTurnsWrong : ChangeSpec := { name := "twinTurns", fn := fun _ => fun
  | [d1, d2, d3] => { results := [.lit (.bool false)], args := [d1, d2, d3] }
  | _ => none }
def TwinTurnsWrongFalsely : Prop := twinTurnsRow.holds Try.pinned (OpenSpec.ofChange twinTurnsWrong)

/-- 'felltop.TopGround': WHATEVER THE INPUT: true; the input reads as it did. -/
def topGroundSpec : ChangeSpec := { name := "topGround", fn := fun _ => fun
  | [d1, d2, d3, d4] => { results := [.lit (.bool true)], args := [d1, d2, d3, d4] }
  | _ => none }
def topGroundRow : OpenClaim := { program := "ytbgkkmcobijkgaa", sum := "753de0256f3bf7f75b9403b06a52b6e6fd58dfc6bc8b4c7efa8006d96547688c", func := "fellwalker/felltop.TopGround", spec := "topGround", inPlace := ["internal/abi.NoEscape", "internal/bytealg.IndexByteString"], unfollowed := true, recurses := true, apart := false }
def TopGroundSaid : Prop := topGroundRow.holds Try.pinned (OpenSpec.ofChange topGroundSpec)

/-- ITS FALSE NEIGHBOUR: 'it returns false'. Refute it at one input. -/
def topGroundWrong : ChangeSpec := { name := "topGround", fn := fun _ => fun
  | [d1, d2, d3, d4] => { results := [.lit (.bool false)], args := [d1, d2, d3, d4] }
  | _ => none }
def TopGroundWrongFalsely : Prop := topGroundRow.holds Try.pinned (OpenSpec.ofChange topGroundWrong)

/- THE SECOND FORM. 'bulk': how many values and letters a reading holds, each counted each time it is reached (what is shared counts as often as it is met; a slice's spare places count too). A statement '..UptoSaid' is the law's where the arguments, and the package variables that the reading takes, are together of bulk at most 1048576: NARROWER than '..Said'. Prove '..Said' where nothing that the law and all that it calls make is longer than what came in: it says more and counts as full. Else prove '..UptoSaid'. A law counts once. -/
mutual
def uptoBulk {H : Type} : DataW H → Nat
  | .lit (.string bytes) => bytes.length + 1
  | .lit _ => 1
  | .nil => 1
  | .ptr d => uptoBulk d + 1
  | .slice elems spare => uptoBulkAll elems + uptoBulkAll spare + 1
  | .agg parts => uptoBulkAll parts + 1
  | .iface _ d => uptoBulk d + 1
  | .map entries => uptoBulkEntries entries + 1
  | .held _ => 1
def uptoBulkAll {H : Type} : List (DataW H) → Nat
  | [] => 0
  | d :: r => uptoBulk d + uptoBulkAll r
def uptoBulkEntries {H : Type} : List (Lit × DataW H) → Nat
  | [] => 0
  | x :: r => uptoBulkEntry x + uptoBulkEntries r
def uptoBulkEntry {H : Type} : Lit × DataW H → Nat
  | (.string bytes, d) => bytes.length + uptoBulk d + 1
  | (_, d) => uptoBulk d + 1
 end
def uptoSmall : (H : Type) → List (DataW H) → Bool := fun _ ds => decide (uptoBulkAll ds ≤ 1048576)
def OpenSpec.upto (s : _root_.Go.ChangeSpec) : _root_.Go.OpenSpec := { _root_.Go.OpenSpec.ofChange s with cond := some uptoSmall }

/-- 'fellkeep.HierDoors', WHERE WHAT IT READS IS OF BULK AT MOST 1048576: true; the input reads as it did. -/
def hierDoorsUptoRow : OpenClaim := { program := "ytbgkkmcobijkgaa", sum := "753de0256f3bf7f75b9403b06a52b6e6fd58dfc6bc8b4c7efa8006d96547688c", func := "fellwalker/fellkeep.HierDoors", spec := "hierDoors", apart := false, narrowed := true }
def HierDoorsUptoSaid : Prop := hierDoorsUptoRow.holds Try.pinned (OpenSpec.upto hierDoorsSpec)

/-- 'fellkeep.StarPlain', WHERE WHAT IT READS IS OF BULK AT MOST 1048576: true; the input reads as it did. -/
def starPlainUptoRow : OpenClaim := { program := "ytbgkkmcobijkgaa", sum := "753de0256f3bf7f75b9403b06a52b6e6fd58dfc6bc8b4c7efa8006d96547688c", func := "fellwalker/fellkeep.StarPlain", spec := "starPlain", unfollowed := true, recurses := true, apart := false, narrowed := true }
def StarPlainUptoSaid : Prop := starPlainUptoRow.holds Try.pinned (OpenSpec.upto starPlainSpec)

/-- 'fellkeep.StarSpares', WHERE WHAT IT READS IS OF BULK AT MOST 1048576: true; the input reads as it did. -/
def starSparesUptoRow : OpenClaim := { program := "ytbgkkmcobijkgaa", sum := "753de0256f3bf7f75b9403b06a52b6e6fd58dfc6bc8b4c7efa8006d96547688c", func := "fellwalker/fellkeep.StarSpares", spec := "starSpares", unfollowed := true, recurses := true, apart := false, narrowed := true }
def StarSparesUptoSaid : Prop := starSparesUptoRow.holds Try.pinned (OpenSpec.upto starSparesSpec)

/-- 'fellkeep.WeighOne', WHERE WHAT IT READS IS OF BULK AT MOST 1048576: true; the input reads as it did. -/
def weighOneUptoRow : OpenClaim := { program := "ytbgkkmcobijkgaa", sum := "753de0256f3bf7f75b9403b06a52b6e6fd58dfc6bc8b4c7efa8006d96547688c", func := "fellwalker/fellkeep.WeighOne", spec := "weighOne", unfollowed := true, recurses := true, apart := false, narrowed := true }
def WeighOneUptoSaid : Prop := weighOneUptoRow.holds Try.pinned (OpenSpec.upto weighOneSpec)

/-- 'fellkeep.HierInside', WHERE WHAT IT READS IS OF BULK AT MOST 1048576: true; the input reads as it did. -/
def hierInsideUptoRow : OpenClaim := { program := "ytbgkkmcobijkgaa", sum := "753de0256f3bf7f75b9403b06a52b6e6fd58dfc6bc8b4c7efa8006d96547688c", func := "fellwalker/fellkeep.HierInside", spec := "hierInside", unfollowed := true, recurses := true, apart := false, narrowed := true }
def HierInsideUptoSaid : Prop := hierInsideUptoRow.holds Try.pinned (OpenSpec.upto hierInsideSpec)

/-- 'fellkeep.FocalMore', WHERE WHAT IT READS IS OF BULK AT MOST 1048576: true; the input reads as it did. -/
def focalMoreUptoRow : OpenClaim := { program := "ytbgkkmcobijkgaa", sum := "753de0256f3bf7f75b9403b06a52b6e6fd58dfc6bc8b4c7efa8006d96547688c", func := "fellwalker/fellkeep.FocalMore", spec := "focalMore", apart := false, narrowed := true }
def FocalMoreUptoSaid : Prop := focalMoreUptoRow.holds Try.pinned (OpenSpec.upto focalMoreSpec)

/-- 'fellkeep.HierSame', WHERE WHAT IT READS IS OF BULK AT MOST 1048576: true; the input reads as it did. -/
def hierSameUptoRow : OpenClaim := { program := "ytbgkkmcobijkgaa", sum := "753de0256f3bf7f75b9403b06a52b6e6fd58dfc6bc8b4c7efa8006d96547688c", func := "fellwalker/fellkeep.HierSame", spec := "hierSame", unfollowed := true, recurses := true, apart := false, narrowed := true }
def HierSameUptoSaid : Prop := hierSameUptoRow.holds Try.pinned (OpenSpec.upto hierSameSpec)

/-- 'fellkeep.StarLeast', WHERE WHAT IT READS IS OF BULK AT MOST 1048576: true; the input reads as it did. -/
def starLeastUptoRow : OpenClaim := { program := "ytbgkkmcobijkgaa", sum := "753de0256f3bf7f75b9403b06a52b6e6fd58dfc6bc8b4c7efa8006d96547688c", func := "fellwalker/fellkeep.StarLeast", spec := "starLeast", unfollowed := true, recurses := true, apart := false, narrowed := true }
def StarLeastUptoSaid : Prop := starLeastUptoRow.holds Try.pinned (OpenSpec.upto starLeastSpec)

/-- 'fellkeep.WeighBound', WHERE WHAT IT READS IS OF BULK AT MOST 1048576: true; the input reads as it did. -/
def weighBoundUptoRow : OpenClaim := { program := "ytbgkkmcobijkgaa", sum := "753de0256f3bf7f75b9403b06a52b6e6fd58dfc6bc8b4c7efa8006d96547688c", func := "fellwalker/fellkeep.WeighBound", spec := "weighBound", unfollowed := true, recurses := true, apart := false, narrowed := true }
def WeighBoundUptoSaid : Prop := weighBoundUptoRow.holds Try.pinned (OpenSpec.upto weighBoundSpec)

/-- 'fellkeep.FocalBound', WHERE WHAT IT READS IS OF BULK AT MOST 1048576: true; the input reads as it did. -/
def focalBoundUptoRow : OpenClaim := { program := "ytbgkkmcobijkgaa", sum := "753de0256f3bf7f75b9403b06a52b6e6fd58dfc6bc8b4c7efa8006d96547688c", func := "fellwalker/fellkeep.FocalBound", spec := "focalBound", unfollowed := true, recurses := true, apart := false, narrowed := true }
def FocalBoundUptoSaid : Prop := focalBoundUptoRow.holds Try.pinned (OpenSpec.upto focalBoundSpec)

/-- 'fellkeep.TwinTurns', WHERE WHAT IT READS IS OF BULK AT MOST 1048576: true; the input reads as it did. -/
def twinTurnsUptoRow : OpenClaim := { program := "ytbgkkmcobijkgaa", sum := "753de0256f3bf7f75b9403b06a52b6e6fd58dfc6bc8b4c7efa8006d96547688c", func := "fellwalker/fellkeep.TwinTurns", spec := "twinTurns", apart := false, narrowed := true }
def TwinTurnsUptoSaid : Prop := twinTurnsUptoRow.holds Try.pinned (OpenSpec.upto twinTurnsSpec)

/-- 'felltop.TopGround', WHERE WHAT IT READS IS OF BULK AT MOST 1048576: true; the input reads as it did. -/
def topGroundUptoRow : OpenClaim := { program := "ytbgkkmcobijkgaa", sum := "753de0256f3bf7f75b9403b06a52b6e6fd58dfc6bc8b4c7efa8006d96547688c", func := "fellwalker/felltop.TopGround", spec := "topGround", inPlace := ["internal/abi.NoEscape", "internal/bytealg.IndexByteString"], unfollowed := true, recurses := true, apart := false, narrowed := true }
def TopGroundUptoSaid : Prop := topGroundUptoRow.holds Try.pinned (OpenSpec.upto topGroundSpec)

end Rows
end Go.Proofs.Ytbgkkmcobijkgaa
