/-
  No cell of these rows narrows 'for every input' (looked for: loops, veiled, ifaces, maps, wideKeys, modest, calm, conditions, laid).
  DERIVED. THE GIVEN ROWS OF THIS SEAT. 12 by the template 'for every input the law returns true; each argument reads behind the call as it read before'; 0 by the template 'total and deterministic' (their statements: YthlhlglmkcbgaaaTotals.lean).
  GIVEN WITH THE SEED: the statements are not yours to turn. If you find one false, say at which input.
  Laid BY PROGRAM, IN A SANDBOX (cutbox-rows.mjs): the forced cells as the released guide's own fill.sh prints them over the translation c2d07946a52801fc… (all of the seat's roots in one cut). By AI agents, Wed Nov 11 2026. No macro, syntax, notation, axiom, sorry.
-/
import Derived.Test.YthlhlglmkcbgaaaChecked
import GoSem.Claim
import GoSem.ClaimJoined
import GoSem.ClaimMapViews
import Derived.JoinedTies
import Derived.KernelRfl
namespace Go.Proofs.Ythlhlglmkcbgaaa
/- THE CELL 'sum', in the pinned program and in every row, IS THE sha256 OF THE DUMP (.gsa) THAT YthlhlglmkcbgaaaProg.lean LOADS. Nothing in Lean hashes anything: it is a label: what it is worth is what the hold of that sum in a sandbox is worth. -/
noncomputable def Try.pinned : Pinned := { name := "ythlhlglmkcbgaaa", sum := "c2d07946a52801fc6e539c5777cdfe5a8994f942f4a8b959e16254e0c53e6b42", checked := Try.checked }
namespace Rows
def none {H : Type} : Left H := { results := [], args := [] }

/-- 'fellkeep.RatioHalves': WHATEVER THE INPUT: true; the input reads as it did. -/
def ratioHalvesSpec : ChangeSpec := { name := "ratioHalves", fn := fun _ => fun
  | [d] => { results := [.lit (.bool true)], args := [d] }
  | _ => none }
def ratioHalvesRow : OpenClaim := { program := "ythlhlglmkcbgaaa", sum := "c2d07946a52801fc6e539c5777cdfe5a8994f942f4a8b959e16254e0c53e6b42", func := "fellwalker/fellkeep.RatioHalves", spec := "ratioHalves", apart := false }
def RatioHalvesSaid : Prop := ratioHalvesRow.holds Try.pinned (OpenSpec.ofChange ratioHalvesSpec)

/-- ITS FALSE NEIGHBOUR: 'it returns false'. Refute it at one input. -/
def ratioHalvesWrong : ChangeSpec := { name := "ratioHalves", fn := fun _ => fun
  | [d] => { results := [.lit (.bool false)], args := [d] }
  | _ => none }
def RatioHalvesWrongFalsely : Prop := ratioHalvesRow.holds Try.pinned (OpenSpec.ofChange ratioHalvesWrong)

/-- 'fellkeep.RatioOrders': WHATEVER THE INPUT: true; the input reads as it did. -/
def ratioOrdersSpec : ChangeSpec := { name := "ratioOrders", fn := fun _ => fun
  | [d1, d2, d3] => { results := [.lit (.bool true)], args := [d1, d2, d3] }
  | _ => none }
def ratioOrdersRow : OpenClaim := { program := "ythlhlglmkcbgaaa", sum := "c2d07946a52801fc6e539c5777cdfe5a8994f942f4a8b959e16254e0c53e6b42", func := "fellwalker/fellkeep.RatioOrders", spec := "ratioOrders", apart := false }
def RatioOrdersSaid : Prop := ratioOrdersRow.holds Try.pinned (OpenSpec.ofChange ratioOrdersSpec)

/-- ITS FALSE NEIGHBOUR: 'it returns false'. Refute it at one input. -/
def ratioOrdersWrong : ChangeSpec := { name := "ratioOrders", fn := fun _ => fun
  | [d1, d2, d3] => { results := [.lit (.bool false)], args := [d1, d2, d3] }
  | _ => none }
def RatioOrdersWrongFalsely : Prop := ratioOrdersRow.holds Try.pinned (OpenSpec.ofChange ratioOrdersWrong)

/-- 'fellkeep.WalkOwn': WHATEVER THE INPUT: true; the input reads as it did. -/
def walkOwnSpec : ChangeSpec := { name := "walkOwn", fn := fun _ => fun
  | [d1, d2] => { results := [.lit (.bool true)], args := [d1, d2] }
  | _ => none }
def walkOwnRow : OpenClaim := { program := "ythlhlglmkcbgaaa", sum := "c2d07946a52801fc6e539c5777cdfe5a8994f942f4a8b959e16254e0c53e6b42", func := "fellwalker/fellkeep.WalkOwn", spec := "walkOwn", apart := false }
def WalkOwnSaid : Prop := walkOwnRow.holds Try.pinned (OpenSpec.ofChange walkOwnSpec)

/-- ITS FALSE NEIGHBOUR: 'it returns false'. Refute it at one input. -/
def walkOwnWrong : ChangeSpec := { name := "walkOwn", fn := fun _ => fun
  | [d1, d2] => { results := [.lit (.bool false)], args := [d1, d2] }
  | _ => none }
def WalkOwnWrongFalsely : Prop := walkOwnRow.holds Try.pinned (OpenSpec.ofChange walkOwnWrong)

/-- 'fellkeep.RatioSums': WHATEVER THE INPUT: true; the input reads as it did. -/
def ratioSumsSpec : ChangeSpec := { name := "ratioSums", fn := fun _ => fun
  | [d1, d2, d3] => { results := [.lit (.bool true)], args := [d1, d2, d3] }
  | _ => none }
def ratioSumsRow : OpenClaim := { program := "ythlhlglmkcbgaaa", sum := "c2d07946a52801fc6e539c5777cdfe5a8994f942f4a8b959e16254e0c53e6b42", func := "fellwalker/fellkeep.RatioSums", spec := "ratioSums", apart := false }
def RatioSumsSaid : Prop := ratioSumsRow.holds Try.pinned (OpenSpec.ofChange ratioSumsSpec)

/-- ITS FALSE NEIGHBOUR: 'it returns false'. Refute it at one input. -/
def ratioSumsWrong : ChangeSpec := { name := "ratioSums", fn := fun _ => fun
  | [d1, d2, d3] => { results := [.lit (.bool false)], args := [d1, d2, d3] }
  | _ => none }
def RatioSumsWrongFalsely : Prop := ratioSumsRow.holds Try.pinned (OpenSpec.ofChange ratioSumsWrong)

/-- 'fellkeep.UnionLeast': WHATEVER THE INPUT: true; the input reads as it did. -/
def unionLeastSpec : ChangeSpec := { name := "unionLeast", fn := fun _ => fun
  | [d1, d2] => { results := [.lit (.bool true)], args := [d1, d2] }
  | _ => none }
def unionLeastRow : OpenClaim := { program := "ythlhlglmkcbgaaa", sum := "c2d07946a52801fc6e539c5777cdfe5a8994f942f4a8b959e16254e0c53e6b42", func := "fellwalker/fellkeep.UnionLeast", spec := "unionLeast", apart := false }
def UnionLeastSaid : Prop := unionLeastRow.holds Try.pinned (OpenSpec.ofChange unionLeastSpec)

/-- ITS FALSE NEIGHBOUR: 'it returns false'. Refute it at one input. -/
def unionLeastWrong : ChangeSpec := { name := "unionLeast", fn := fun _ => fun
  | [d1, d2] => { results := [.lit (.bool false)], args := [d1, d2] }
  | _ => none }
def UnionLeastWrongFalsely : Prop := unionLeastRow.holds Try.pinned (OpenSpec.ofChange unionLeastWrong)

/-- 'fellkeep.HeapOrders': WHATEVER THE INPUT: true; the input reads as it did. -/
def heapOrdersSpec : ChangeSpec := { name := "heapOrders", fn := fun _ => fun
  | [d1, d2] => { results := [.lit (.bool true)], args := [d1, d2] }
  | _ => none }
def heapOrdersRow : OpenClaim := { program := "ythlhlglmkcbgaaa", sum := "c2d07946a52801fc6e539c5777cdfe5a8994f942f4a8b959e16254e0c53e6b42", func := "fellwalker/fellkeep.HeapOrders", spec := "heapOrders", unfollowed := true, recurses := true, apart := false }
def HeapOrdersSaid : Prop := heapOrdersRow.holds Try.pinned (OpenSpec.ofChange heapOrdersSpec)

/-- ITS FALSE NEIGHBOUR: 'it returns false'. Refute it at one input. -/
def heapOrdersWrong : ChangeSpec := { name := "heapOrders", fn := fun _ => fun
  | [d1, d2] => { results := [.lit (.bool false)], args := [d1, d2] }
  | _ => none }
def HeapOrdersWrongFalsely : Prop := heapOrdersRow.holds Try.pinned (OpenSpec.ofChange heapOrdersWrong)

/-- 'fellkeep.WalkParts': WHATEVER THE INPUT: true; the input reads as it did. -/
def walkPartsSpec : ChangeSpec := { name := "walkParts", fn := fun _ => fun
  | [d1, d2, d3] => { results := [.lit (.bool true)], args := [d1, d2, d3] }
  | _ => none }
def walkPartsRow : OpenClaim := { program := "ythlhlglmkcbgaaa", sum := "c2d07946a52801fc6e539c5777cdfe5a8994f942f4a8b959e16254e0c53e6b42", func := "fellwalker/fellkeep.WalkParts", spec := "walkParts", apart := false }
def WalkPartsSaid : Prop := walkPartsRow.holds Try.pinned (OpenSpec.ofChange walkPartsSpec)

/-- ITS FALSE NEIGHBOUR: 'it returns false'. Refute it at one input. -/
def walkPartsWrong : ChangeSpec := { name := "walkParts", fn := fun _ => fun
  | [d1, d2, d3] => { results := [.lit (.bool false)], args := [d1, d2, d3] }
  | _ => none }
def WalkPartsWrongFalsely : Prop := walkPartsRow.holds Try.pinned (OpenSpec.ofChange walkPartsWrong)

/-- 'fellkeep.BellTight': WHATEVER THE INPUT: true; the input reads as it did. -/
def bellTightSpec : ChangeSpec := { name := "bellTight", fn := fun _ => fun
  | [d1, d2] => { results := [.lit (.bool true)], args := [d1, d2] }
  | _ => none }
def bellTightRow : OpenClaim := { program := "ythlhlglmkcbgaaa", sum := "c2d07946a52801fc6e539c5777cdfe5a8994f942f4a8b959e16254e0c53e6b42", func := "fellwalker/fellkeep.BellTight", spec := "bellTight", unfollowed := true, recurses := true, apart := false }
def BellTightSaid : Prop := bellTightRow.holds Try.pinned (OpenSpec.ofChange bellTightSpec)

/-- ITS FALSE NEIGHBOUR: 'it returns false'. Refute it at one input. -/
def bellTightWrong : ChangeSpec := { name := "bellTight", fn := fun _ => fun
  | [d1, d2] => { results := [.lit (.bool false)], args := [d1, d2] }
  | _ => none }
def BellTightWrongFalsely : Prop := bellTightRow.holds Try.pinned (OpenSpec.ofChange bellTightWrong)

/-- 'fellkeep.UnionOne': WHATEVER THE INPUT: true; the input reads as it did. -/
def unionOneSpec : ChangeSpec := { name := "unionOne", fn := fun _ => fun
  | [d1, d2, d3] => { results := [.lit (.bool true)], args := [d1, d2, d3] }
  | _ => none }
def unionOneRow : OpenClaim := { program := "ythlhlglmkcbgaaa", sum := "c2d07946a52801fc6e539c5777cdfe5a8994f942f4a8b959e16254e0c53e6b42", func := "fellwalker/fellkeep.UnionOne", spec := "unionOne", apart := false }
def UnionOneSaid : Prop := unionOneRow.holds Try.pinned (OpenSpec.ofChange unionOneSpec)

/-- ITS FALSE NEIGHBOUR: 'it returns false'. Refute it at one input. -/
def unionOneWrong : ChangeSpec := { name := "unionOne", fn := fun _ => fun
  | [d1, d2, d3] => { results := [.lit (.bool false)], args := [d1, d2, d3] }
  | _ => none }
def UnionOneWrongFalsely : Prop := unionOneRow.holds Try.pinned (OpenSpec.ofChange unionOneWrong)

/-- 'fellkeep.GridBack': WHATEVER THE INPUT: true; the input reads as it did. -/
def gridBackSpec : ChangeSpec := { name := "gridBack", fn := fun _ => fun
  | [d1, d2] => { results := [.lit (.bool true)], args := [d1, d2] }
  | _ => none }
def gridBackRow : OpenClaim := { program := "ythlhlglmkcbgaaa", sum := "c2d07946a52801fc6e539c5777cdfe5a8994f942f4a8b959e16254e0c53e6b42", func := "fellwalker/fellkeep.GridBack", spec := "gridBack", apart := false }
def GridBackSaid : Prop := gridBackRow.holds Try.pinned (OpenSpec.ofChange gridBackSpec)

/-- ITS FALSE NEIGHBOUR: 'it returns false'. Refute it at one input. -/
def gridBackWrong : ChangeSpec := { name := "gridBack", fn := fun _ => fun
  | [d1, d2] => { results := [.lit (.bool false)], args := [d1, d2] }
  | _ => none }
def GridBackWrongFalsely : Prop := gridBackRow.holds Try.pinned (OpenSpec.ofChange gridBackWrong)

/-- 'fellkeep.GridTurns': WHATEVER THE INPUT: true; the input reads as it did. -/
def gridTurnsSpec : ChangeSpec := { name := "gridTurns", fn := fun _ => fun
  | [d1, d2] => { results := [.lit (.bool true)], args := [d1, d2] }
  | _ => none }
def gridTurnsRow : OpenClaim := { program := "ythlhlglmkcbgaaa", sum := "c2d07946a52801fc6e539c5777cdfe5a8994f942f4a8b959e16254e0c53e6b42", func := "fellwalker/fellkeep.GridTurns", spec := "gridTurns", unfollowed := true, recurses := true, apart := false }
def GridTurnsSaid : Prop := gridTurnsRow.holds Try.pinned (OpenSpec.ofChange gridTurnsSpec)

/-- ITS FALSE NEIGHBOUR: 'it returns false'. Refute it at one input. -/
def gridTurnsWrong : ChangeSpec := { name := "gridTurns", fn := fun _ => fun
  | [d1, d2] => { results := [.lit (.bool false)], args := [d1, d2] }
  | _ => none }
def GridTurnsWrongFalsely : Prop := gridTurnsRow.holds Try.pinned (OpenSpec.ofChange gridTurnsWrong)

/-- 'fellkeep.WalkBack': WHATEVER THE INPUT: true; the input reads as it did. -/
def walkBackSpec : ChangeSpec := { name := "walkBack", fn := fun _ => fun
  | [d1, d2] => { results := [.lit (.bool true)], args := [d1, d2] }
  | _ => none }
def walkBackRow : OpenClaim := { program := "ythlhlglmkcbgaaa", sum := "c2d07946a52801fc6e539c5777cdfe5a8994f942f4a8b959e16254e0c53e6b42", func := "fellwalker/fellkeep.WalkBack", spec := "walkBack", apart := false }
def WalkBackSaid : Prop := walkBackRow.holds Try.pinned (OpenSpec.ofChange walkBackSpec)

/-- ITS FALSE NEIGHBOUR: 'it returns false'. Refute it at one input. -/
def walkBackWrong : ChangeSpec := { name := "walkBack", fn := fun _ => fun
  | [d1, d2] => { results := [.lit (.bool false)], args := [d1, d2] }
  | _ => none }
def WalkBackWrongFalsely : Prop := walkBackRow.holds Try.pinned (OpenSpec.ofChange walkBackWrong)

/- THE SECOND FORM. 'bulk': how many values and letters a reading holds, each counted each time it is reached (what is shared counts as often as it is met; a slice's spare places count too). A statement '..UptoSaid' is the law's where the arguments, and the package variables that the reading takes, are together of bulk at most 1048576: NARROWER than '..Said'. Prove '..Said' where nothing that the law and all that it calls make is longer than what came in: it says more and counts as full. Else prove '..UptoSaid'. A law counts once. -/
mutual
def uptoBulk {H : Type} : DataW H → Nat
  | .lit (.string bytes) => bytes.length + 1
  | .lit _ => 1
  | .nil => 1
  | .ptr d => uptoBulk d + 1
  | .slice elems spare => uptoBulkAll elems + uptoBulkAll spare + 1
  | .agg parts => uptoBulkAll parts + 1
  | .iface _ d => uptoBulk d + 1
  | .map entries => uptoBulkEntries entries + 1
  | .held _ => 1
def uptoBulkAll {H : Type} : List (DataW H) → Nat
  | [] => 0
  | d :: r => uptoBulk d + uptoBulkAll r
def uptoBulkEntries {H : Type} : List (Lit × DataW H) → Nat
  | [] => 0
  | x :: r => uptoBulkEntry x + uptoBulkEntries r
def uptoBulkEntry {H : Type} : Lit × DataW H → Nat
  | (.string bytes, d) => bytes.length + uptoBulk d + 1
  | (_, d) => uptoBulk d + 1
 end
def uptoSmall : (H : Type) → List (DataW H) → Bool := fun _ ds => decide (uptoBulkAll ds ≤ 1048576)
def OpenSpec.upto (s : _root_.Go.ChangeSpec) : _root_.Go.OpenSpec := { _root_.Go.OpenSpec.ofChange s with cond := some uptoSmall }

/-- 'fellkeep.RatioHalves', WHERE WHAT IT READS IS OF BULK AT MOST 1048576: true; the input reads as it did. -/
def ratioHalvesUptoRow : OpenClaim := { program := "ythlhlglmkcbgaaa", sum := "c2d07946a52801fc6e539c5777cdfe5a8994f942f4a8b959e16254e0c53e6b42", func := "fellwalker/fellkeep.RatioHalves", spec := "ratioHalves", apart := false, narrowed := true }
def RatioHalvesUptoSaid : Prop := ratioHalvesUptoRow.holds Try.pinned (OpenSpec.upto ratioHalvesSpec)

/-- 'fellkeep.RatioOrders', WHERE WHAT IT READS IS OF BULK AT MOST 1048576: true; the input reads as it did. -/
def ratioOrdersUptoRow : OpenClaim := { program := "ythlhlglmkcbgaaa", sum := "c2d07946a52801fc6e539c5777cdfe5a8994f942f4a8b959e16254e0c53e6b42", func := "fellwalker/fellkeep.RatioOrders", spec := "ratioOrders", apart := false, narrowed := true }
def RatioOrdersUptoSaid : Prop := ratioOrdersUptoRow.holds Try.pinned (OpenSpec.upto ratioOrdersSpec)

/-- 'fellkeep.WalkOwn', WHERE WHAT IT READS IS OF BULK AT MOST 1048576: true; the input reads as it did. -/
def walkOwnUptoRow : OpenClaim := { program := "ythlhlglmkcbgaaa", sum := "c2d07946a52801fc6e539c5777cdfe5a8994f942f4a8b959e16254e0c53e6b42", func := "fellwalker/fellkeep.WalkOwn", spec := "walkOwn", apart := false, narrowed := true }
def WalkOwnUptoSaid : Prop := walkOwnUptoRow.holds Try.pinned (OpenSpec.upto walkOwnSpec)

/-- 'fellkeep.RatioSums', WHERE WHAT IT READS IS OF BULK AT MOST 1048576: true; the input reads as it did. -/
def ratioSumsUptoRow : OpenClaim := { program := "ythlhlglmkcbgaaa", sum := "c2d07946a52801fc6e539c5777cdfe5a8994f942f4a8b959e16254e0c53e6b42", func := "fellwalker/fellkeep.RatioSums", spec := "ratioSums", apart := false, narrowed := true }
def RatioSumsUptoSaid : Prop := ratioSumsUptoRow.holds Try.pinned (OpenSpec.upto ratioSumsSpec)

/-- 'fellkeep.UnionLeast', WHERE WHAT IT READS IS OF BULK AT MOST 1048576: true; the input reads as it did. -/
def unionLeastUptoRow : OpenClaim := { program := "ythlhlglmkcbgaaa", sum := "c2d07946a52801fc6e539c5777cdfe5a8994f942f4a8b959e16254e0c53e6b42", func := "fellwalker/fellkeep.UnionLeast", spec := "unionLeast", apart := false, narrowed := true }
def UnionLeastUptoSaid : Prop := unionLeastUptoRow.holds Try.pinned (OpenSpec.upto unionLeastSpec)

/-- 'fellkeep.HeapOrders', WHERE WHAT IT READS IS OF BULK AT MOST 1048576: true; the input reads as it did. -/
def heapOrdersUptoRow : OpenClaim := { program := "ythlhlglmkcbgaaa", sum := "c2d07946a52801fc6e539c5777cdfe5a8994f942f4a8b959e16254e0c53e6b42", func := "fellwalker/fellkeep.HeapOrders", spec := "heapOrders", unfollowed := true, recurses := true, apart := false, narrowed := true }
def HeapOrdersUptoSaid : Prop := heapOrdersUptoRow.holds Try.pinned (OpenSpec.upto heapOrdersSpec)

/-- 'fellkeep.WalkParts', WHERE WHAT IT READS IS OF BULK AT MOST 1048576: true; the input reads as it did. -/
def walkPartsUptoRow : OpenClaim := { program := "ythlhlglmkcbgaaa", sum := "c2d07946a52801fc6e539c5777cdfe5a8994f942f4a8b959e16254e0c53e6b42", func := "fellwalker/fellkeep.WalkParts", spec := "walkParts", apart := false, narrowed := true }
def WalkPartsUptoSaid : Prop := walkPartsUptoRow.holds Try.pinned (OpenSpec.upto walkPartsSpec)

/-- 'fellkeep.BellTight', WHERE WHAT IT READS IS OF BULK AT MOST 1048576: true; the input reads as it did. -/
def bellTightUptoRow : OpenClaim := { program := "ythlhlglmkcbgaaa", sum := "c2d07946a52801fc6e539c5777cdfe5a8994f942f4a8b959e16254e0c53e6b42", func := "fellwalker/fellkeep.BellTight", spec := "bellTight", unfollowed := true, recurses := true, apart := false, narrowed := true }
def BellTightUptoSaid : Prop := bellTightUptoRow.holds Try.pinned (OpenSpec.upto bellTightSpec)

/-- 'fellkeep.UnionOne', WHERE WHAT IT READS IS OF BULK AT MOST 1048576: true; the input reads as it did. -/
def unionOneUptoRow : OpenClaim := { program := "ythlhlglmkcbgaaa", sum := "c2d07946a52801fc6e539c5777cdfe5a8994f942f4a8b959e16254e0c53e6b42", func := "fellwalker/fellkeep.UnionOne", spec := "unionOne", apart := false, narrowed := true }
def UnionOneUptoSaid : Prop := unionOneUptoRow.holds Try.pinned (OpenSpec.upto unionOneSpec)

/-- 'fellkeep.GridBack', WHERE WHAT IT READS IS OF BULK AT MOST 1048576: true; the input reads as it did. -/
def gridBackUptoRow : OpenClaim := { program := "ythlhlglmkcbgaaa", sum := "c2d07946a52801fc6e539c5777cdfe5a8994f942f4a8b959e16254e0c53e6b42", func := "fellwalker/fellkeep.GridBack", spec := "gridBack", apart := false, narrowed := true }
def GridBackUptoSaid : Prop := gridBackUptoRow.holds Try.pinned (OpenSpec.upto gridBackSpec)

/-- 'fellkeep.GridTurns', WHERE WHAT IT READS IS OF BULK AT MOST 1048576: true; the input reads as it did. -/
def gridTurnsUptoRow : OpenClaim := { program := "ythlhlglmkcbgaaa", sum := "c2d07946a52801fc6e539c5777cdfe5a8994f942f4a8b959e16254e0c53e6b42", func := "fellwalker/fellkeep.GridTurns", spec := "gridTurns", unfollowed := true, recurses := true, apart := false, narrowed := true }
def GridTurnsUptoSaid : Prop := gridTurnsUptoRow.holds Try.pinned (OpenSpec.upto gridTurnsSpec)

/-- 'fellkeep.WalkBack', WHERE WHAT IT READS IS OF BULK AT MOST 1048576: true; the input reads as it did. -/
def walkBackUptoRow : OpenClaim := { program := "ythlhlglmkcbgaaa", sum := "c2d07946a52801fc6e539c5777cdfe5a8994f942f4a8b959e16254e0c53e6b42", func := "fellwalker/fellkeep.WalkBack", spec := "walkBack", apart := false, narrowed := true }
def WalkBackUptoSaid : Prop := walkBackUptoRow.holds Try.pinned (OpenSpec.upto walkBackSpec)

end Rows
end Go.Proofs.Ythlhlglmkcbgaaa
