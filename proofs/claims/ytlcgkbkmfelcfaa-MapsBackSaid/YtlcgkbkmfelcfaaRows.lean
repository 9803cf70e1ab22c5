/-
  No cell of these rows narrows 'for every input' (looked for: loops, veiled, ifaces, maps, wideKeys, modest, calm, conditions, laid).
  DERIVED. THE GIVEN ROWS OF THIS SEAT. 12 by the template 'for every input the law returns true; each argument reads behind the call as it read before'; 0 by the template 'total and deterministic' (their statements: YtlcgkbkmfelcfaaTotals.lean).
  GIVEN WITH THE SEED: the statements are not yours to turn. If you find one false, say at which input.
  Laid BY PROGRAM, IN A SANDBOX (cutbox-rows.mjs): the forced cells as the released guide's own fill.sh prints them over the translation 899897cdbbee48a8… (all of the seat's roots in one cut). By AI agents, Wed Nov 11 2026. No macro, syntax, notation, axiom, sorry.
-/
import Derived.Test.YtlcgkbkmfelcfaaChecked
import GoSem.Claim
import GoSem.ClaimJoined
import GoSem.ClaimMapViews
import Derived.JoinedTies
import Derived.KernelRfl
namespace Go.Proofs.Ytlcgkbkmfelcfaa
/- THE CELL 'sum', in the pinned program and in every row, IS THE sha256 OF THE DUMP (.gsa) THAT YtlcgkbkmfelcfaaProg.lean LOADS. Nothing in Lean hashes anything: it is a label: what it is worth is what the hold of that sum in a sandbox is worth. -/
noncomputable def Try.pinned : Pinned := { name := "ytlcgkbkmfelcfaa", sum := "899897cdbbee48a8fd34451e2f371306c151aa8e9c9e3ade56f7065d861eaddf", checked := Try.checked }
namespace Rows
def none {H : Type} : Left H := { results := [], args := [] }

/-- 'fellkeep.NetOwn': WHATEVER THE INPUT: true; the input reads as it did. -/
def netOwnSpec : ChangeSpec := { name := "netOwn", fn := fun _ => fun
  | [d1, d2] => { results := [.lit (.bool true)], args := [d1, d2] }
  | _ => none }
def netOwnRow : OpenClaim := { program := "ytlcgkbkmfelcfaa", sum := "899897cdbbee48a8fd34451e2f371306c151aa8e9c9e3ade56f7065d861eaddf", func := "fellwalker/fellkeep.NetOwn", spec := "netOwn", apart := false }
def NetOwnSaid : Prop := netOwnRow.holds Try.pinned (OpenSpec.ofChange netOwnSpec)

/-- ITS FALSE NEIGHBOUR: 'it returns false'. Refute it at one input. -/
def netOwnWrong : ChangeSpec := { name := "netOwn", fn := fun _ => fun
  | [d1, d2] => { results := [.lit (.bool false)], args := [d1, d2] }
  | _ => none }
def NetOwnWrongFalsely : Prop := netOwnRow.holds Try.pinned (OpenSpec.ofChange netOwnWrong)

/-- 'fellkeep.MapsBack': WHATEVER THE INPUT: true; the input reads as it did. -/
def mapsBackSpec : ChangeSpec := { name := "mapsBack", fn := fun _ => fun
  | [d] => { results := [.lit (.bool true)], args := [d] }
  | _ => none }
def mapsBackRow : OpenClaim := { program := "ytlcgkbkmfelcfaa", sum := "899897cdbbee48a8fd34451e2f371306c151aa8e9c9e3ade56f7065d861eaddf", func := "fellwalker/fellkeep.MapsBack", spec := "mapsBack", inPlace := ["internal/abi.NoEscape", "internal/bytealg.IndexByteString"], apart := false }
def MapsBackSaid : Prop := mapsBackRow.holds Try.pinned (OpenSpec.ofChange mapsBackSpec)

/-- ITS FALSE NEIGHBOUR: 'it returns false'. Refute it at one input. -/
def mapsBackWrong : ChangeSpec := { name := "mapsBack", fn := fun _ => fun
  | [d] => { results := [.lit (.bool false)], args := [d] }
  | _ => none }
def MapsBackWrongFalsely : Prop := mapsBackRow.holds Try.pinned (OpenSpec.ofChange mapsBackWrong)

/-- 'fellkeep.MapsAgain': WHATEVER THE INPUT: true; the input reads as it did. -/
def mapsAgainSpec : ChangeSpec := { name := "mapsAgain", fn := fun _ => fun
  | [d] => { results := [.lit (.bool true)], args := [d] }
  | _ => none }
def mapsAgainRow : OpenClaim := { program := "ytlcgkbkmfelcfaa", sum := "899897cdbbee48a8fd34451e2f371306c151aa8e9c9e3ade56f7065d861eaddf", func := "fellwalker/fellkeep.MapsAgain", spec := "mapsAgain", inPlace := ["internal/bytealg.IndexByteString", "internal/abi.NoEscape"], apart := false }
def MapsAgainSaid : Prop := mapsAgainRow.holds Try.pinned (OpenSpec.ofChange mapsAgainSpec)

/-- ITS FALSE NEIGHBOUR: 'it returns false'. Refute it at one input. -/
def mapsAgainWrong : ChangeSpec := { name := "mapsAgain", fn := fun _ => fun
  | [d] => { results := [.lit (.bool false)], args := [d] }
  | _ => none }
def MapsAgainWrongFalsely : Prop := mapsAgainRow.holds Try.pinned (OpenSpec.ofChange mapsAgainWrong)

/-- 'fellkeep.BellEither': WHATEVER THE INPUT: true; the input reads as it did. -/
def bellEitherSpec : ChangeSpec := { name := "bellEither", fn := fun _ => fun
  | [d] => { results := [.lit (.bool true)], args := [d] }
  | _ => none }
def bellEitherRow : OpenClaim := { program := "ytlcgkbkmfelcfaa", sum := "899897cdbbee48a8fd34451e2f371306c151aa8e9c9e3ade56f7065d861eaddf", func := "fellwalker/fellkeep.BellEither", spec := "bellEither", unfollowed := true, recurses := true, apart := false }
def BellEitherSaid : Prop := bellEitherRow.holds Try.pinned (OpenSpec.ofChange bellEitherSpec)

/-- ITS FALSE NEIGHBOUR: 'it returns false'. Refute it at one input. -/
def bellEitherWrong : ChangeSpec := { name := "bellEither", fn := fun _ => fun
  | [d] => { results := [.lit (.bool false)], args := [d] }
  | _ => none }
def BellEitherWrongFalsely : Prop := bellEitherRow.holds Try.pinned (OpenSpec.ofChange bellEitherWrong)

/-- 'fellkeep.NetTwice': WHATEVER THE INPUT: true; the input reads as it did. -/
def netTwiceSpec : ChangeSpec := { name := "netTwice", fn := fun _ => fun
  | [d] => { results := [.lit (.bool true)], args := [d] }
  | _ => none }
def netTwiceRow : OpenClaim := { program := "ytlcgkbkmfelcfaa", sum := "899897cdbbee48a8fd34451e2f371306c151aa8e9c9e3ade56f7065d861eaddf", func := "fellwalker/fellkeep.NetTwice", spec := "netTwice", recurses := true, apart := false }
def NetTwiceSaid : Prop := netTwiceRow.holds Try.pinned (OpenSpec.ofChange netTwiceSpec)

/-- ITS FALSE NEIGHBOUR: 'it returns false'. Refute it at one input. -/
def netTwiceWrong : ChangeSpec := { name := "netTwice", fn := fun _ => fun
  | [d] => { results := [.lit (.bool false)], args := [d] }
  | _ => none }
def NetTwiceWrongFalsely : Prop := netTwiceRow.holds Try.pinned (OpenSpec.ofChange netTwiceWrong)

/-- 'fellkeep.CompLeads': WHATEVER THE INPUT: true; the input reads as it did. -/
def compLeadsSpec : ChangeSpec := { name := "compLeads", fn := fun _ => fun
  | [d1, d2, d3] => { results := [.lit (.bool true)], args := [d1, d2, d3] }
  | _ => none }
def compLeadsRow : OpenClaim := { program := "ytlcgkbkmfelcfaa", sum := "899897cdbbee48a8fd34451e2f371306c151aa8e9c9e3ade56f7065d861eaddf", func := "fellwalker/fellkeep.CompLeads", spec := "compLeads", unfollowed := true, recurses := true, apart := false }
def CompLeadsSaid : Prop := compLeadsRow.holds Try.pinned (OpenSpec.ofChange compLeadsSpec)

/-- ITS FALSE NEIGHBOUR: 'it returns false'. Refute it at one input. -/
def compLeadsWrong : ChangeSpec := { name := "compLeads", fn := fun _ => fun
  | [d1, d2, d3] => { results := [.lit (.bool false)], args := [d1, d2, d3] }
  | _ => none }
def CompLeadsWrongFalsely : Prop := compLeadsRow.holds Try.pinned (OpenSpec.ofChange compLeadsWrong)

/-- 'fellkeep.CompOrder': WHATEVER THE INPUT: true; the input reads as it did. -/
def compOrderSpec : ChangeSpec := { name := "compOrder", fn := fun _ => fun
  | [d] => { results := [.lit (.bool true)], args := [d] }
  | _ => none }
def compOrderRow : OpenClaim := { program := "ytlcgkbkmfelcfaa", sum := "899897cdbbee48a8fd34451e2f371306c151aa8e9c9e3ade56f7065d861eaddf", func := "fellwalker/fellkeep.CompOrder", spec := "compOrder", unfollowed := true, recurses := true, apart := false }
def CompOrderSaid : Prop := compOrderRow.holds Try.pinned (OpenSpec.ofChange compOrderSpec)

/-- ITS FALSE NEIGHBOUR: 'it returns false'. Refute it at one input. -/
def compOrderWrong : ChangeSpec := { name := "compOrder", fn := fun _ => fun
  | [d] => { results := [.lit (.bool false)], args := [d] }
  | _ => none }
def CompOrderWrongFalsely : Prop := compOrderRow.holds Try.pinned (OpenSpec.ofChange compOrderWrong)

/-- 'fellkeep.DagKnots': WHATEVER THE INPUT: true; the input reads as it did. -/
def dagKnotsSpec : ChangeSpec := { name := "dagKnots", fn := fun _ => fun
  | [d] => { results := [.lit (.bool true)], args := [d] }
  | _ => none }
def dagKnotsRow : OpenClaim := { program := "ytlcgkbkmfelcfaa", sum := "899897cdbbee48a8fd34451e2f371306c151aa8e9c9e3ade56f7065d861eaddf", func := "fellwalker/fellkeep.DagKnots", spec := "dagKnots", unfollowed := true, recurses := true, apart := false }
def DagKnotsSaid : Prop := dagKnotsRow.holds Try.pinned (OpenSpec.ofChange dagKnotsSpec)

/-- ITS FALSE NEIGHBOUR: 'it returns false'. Refute it at one input. -/
def dagKnotsWrong : ChangeSpec := { name := "dagKnots", fn := fun _ => fun
  | [d] => { results := [.lit (.bool false)], args := [d] }
  | _ => none }
def DagKnotsWrongFalsely : Prop := dagKnotsRow.holds Try.pinned (OpenSpec.ofChange dagKnotsWrong)

/-- 'felltop.TopKnots': WHATEVER THE INPUT: true; the input reads as it did. -/
def topKnotsSpec : ChangeSpec := { name := "topKnots", fn := fun _ => fun
  | [d] => { results := [.lit (.bool true)], args := [d] }
  | _ => none }
def topKnotsRow : OpenClaim := { program := "ytlcgkbkmfelcfaa", sum := "899897cdbbee48a8fd34451e2f371306c151aa8e9c9e3ade56f7065d861eaddf", func := "fellwalker/felltop.TopKnots", spec := "topKnots", unfollowed := true, recurses := true, apart := false }
def TopKnotsSaid : Prop := topKnotsRow.holds Try.pinned (OpenSpec.ofChange topKnotsSpec)

/-- ITS FALSE NEIGHBOUR: 'it returns false'. Refute it at one input. -/
def topKnotsWrong : ChangeSpec := { name := "topKnots", fn := fun _ => fun
  | [d] => { results := [.lit (.bool false)], args := [d] }
  | _ => none }
def TopKnotsWrongFalsely : Prop := topKnotsRow.holds Try.pinned (OpenSpec.ofChange topKnotsWrong)

/-- 'fellkeep.FlowTurns': WHATEVER THE INPUT: true; the input reads as it did. -/
def flowTurnsSpec : ChangeSpec := { name := "flowTurns", fn := fun _ => fun
  | [d1, d2, d3] => { results := [.lit (.bool true)], args := [d1, d2, d3] }
  | _ => none }
def flowTurnsRow : OpenClaim := { program := "ytlcgkbkmfelcfaa", sum := "899897cdbbee48a8fd34451e2f371306c151aa8e9c9e3ade56f7065d861eaddf", func := "fellwalker/fellkeep.FlowTurns", spec := "flowTurns", apart := false }
def FlowTurnsSaid : Prop := flowTurnsRow.holds Try.pinned (OpenSpec.ofChange flowTurnsSpec)

/-- ITS FALSE NEIGHBOUR: 'it returns false'. Refute it at one input. -/
def flowTurnsWrong : ChangeSpec := { name := "flowTurns", fn := fun _ => fun
  | [d1, d2, d3] => { results := [.lit (.bool false)], args := [d1, d2, d3] }
  | _ => none }
def FlowTurnsWrongFalsely : Prop := flowTurnsRow.holds Try.pinned (OpenSpec.ofChange flowTurnsWrong)

/-- 'fellkeep.FlowMore': WHATEVER THE INPUT: true; the input reads as it did. -/
def flowMoreSpec : ChangeSpec := { name := "flowMore", fn := fun _ => fun
  | [d1, d2, d3, d4] => { results := [.lit (.bool true)], args := [d1, d2, d3, d4] }
  | _ => none }
def flowMoreRow : OpenClaim := { program := "ytlcgkbkmfelcfaa", sum := "899897cdbbee48a8fd34451e2f371306c151aa8e9c9e3ade56f7065d861eaddf", func := "fellwalker/fellkeep.FlowMore", spec := "flowMore", apart := false }
def FlowMoreSaid : Prop := flowMoreRow.holds Try.pinned (OpenSpec.ofChange flowMoreSpec)

/-- ITS FALSE NEIGHBOUR: 'it returns false'. Refute it at one input. -/
def flowMoreWrong : ChangeSpec := { name := "flowMore", fn := fun _ => fun
  | [d1, d2, d3, d4] => { results := [.lit (.bool false)], args := [d1, d2, d3, d4] }
  | _ => none }
def FlowMoreWrongFalsely : Prop := flowMoreRow.holds Try.pinned (OpenSpec.ofChange flowMoreWrong)

/-- 'fellkeep.FlowWays': WHATEVER THE INPUT: true; the input reads as it did. -/
def flowWaysSpec : ChangeSpec := { name := "flowWays", fn := fun _ => fun
  | [d1, d2, d3] => { results := [.lit (.bool true)], args := [d1, d2, d3] }
  | _ => none }
def flowWaysRow : OpenClaim := { program := "ytlcgkbkmfelcfaa", sum := "899897cdbbee48a8fd34451e2f371306c151aa8e9c9e3ade56f7065d861eaddf", func := "fellwalker/fellkeep.FlowWays", spec := "flowWays", unfollowed := true, recurses := true, apart := false }
def FlowWaysSaid : Prop := flowWaysRow.holds Try.pinned (OpenSpec.ofChange flowWaysSpec)

/-- ITS FALSE NEIGHBOUR: 'it returns false'. Refute it at one input. -/
def flowWaysWrong : ChangeSpec := { name := "flowWays", fn := fun _ => fun
  | [d1, d2, d3] => { results := [.lit (.bool false)], args := [d1, d2, d3] }
  | _ => none }
def FlowWaysWrongFalsely : Prop := flowWaysRow.holds Try.pinned (OpenSpec.ofChange flowWaysWrong)

/- THE SECOND FORM. 'bulk': how many values and letters a reading holds, each counted each time it is reached (what is shared counts as often as it is met; a slice's spare places count too). A statement '..UptoSaid' is the law's where the arguments, and the package variables that the reading takes, are together of bulk at most 1048576: NARROWER than '..Said'. Prove '..Said' where nothing that the law and all that it calls make is longer than what came in: it says more and counts as full. Else prove '..UptoSaid'. A law counts once. -/
mutual
def uptoBulk {H : Type} : DataW H → Nat
  | .lit (.string bytes) => bytes.length + 1
  | .lit _ => 1
  | .nil => 1
  | .ptr d => uptoBulk d + 1
  | .slice elems spare => uptoBulkAll elems + uptoBulkAll spare + 1
  | .agg parts => uptoBulkAll parts + 1
  | .iface _ d => uptoBulk d + 1
  | .map entries => uptoBulkEntries entries + 1
  | .held _ => 1
def uptoBulkAll {H : Type} : List (DataW H) → Nat
  | [] => 0
  | d :: r => uptoBulk d + uptoBulkAll r
def uptoBulkEntries {H : Type} : List (Lit × DataW H) → Nat
  | [] => 0
  | x :: r => uptoBulkEntry x + uptoBulkEntries r
def uptoBulkEntry {H : Type} : Lit × DataW H → Nat
  | (.string bytes, d) => bytes.length + uptoBulk d + 1
  | (_, d) => uptoBulk d + 1
 end
def uptoSmall : (H : Type) → List (DataW H) → Bool := fun _ ds => decide (uptoBulkAll ds ≤ 1048576)
def OpenSpec.upto (s : _root_.Go.ChangeSpec) : _root_.Go.OpenSpec := { _root_.Go.OpenSpec.ofChange s with cond := some uptoSmall }

/-- 'fellkeep.NetOwn', WHERE WHAT IT READS IS OF BULK AT MOST 1048576: true; the input reads as it did. -/
def netOwnUptoRow : OpenClaim := { program := "ytlcgkbkmfelcfaa", sum := "899897cdbbee48a8fd34451e2f371306c151aa8e9c9e3ade56f7065d861eaddf", func := "fellwalker/fellkeep.NetOwn", spec := "netOwn", apart := false, narrowed := true }
def NetOwnUptoSaid : Prop := netOwnUptoRow.holds Try.pinned (OpenSpec.upto netOwnSpec)

/-- 'fellkeep.MapsBack', WHERE WHAT IT READS IS OF BULK AT MOST 1048576: true; the input reads as it did. -/
def mapsBackUptoRow : OpenClaim := { program := "ytlcgkbkmfelcfaa", sum := "899897cdbbee48a8fd34451e2f371306c151aa8e9c9e3ade56f7065d861eaddf", func := "fellwalker/fellkeep.MapsBack", spec := "mapsBack", inPlace := ["internal/abi.NoEscape", "internal/bytealg.IndexByteString"], apart := false, narrowed := true }
def MapsBackUptoSaid : Prop := mapsBackUptoRow.holds Try.pinned (OpenSpec.upto mapsBackSpec)

/-- 'fellkeep.MapsAgain', WHERE WHAT IT READS IS OF BULK AT MOST 1048576: true; the input reads as it did. -/
def mapsAgainUptoRow : OpenClaim := { program := "ytlcgkbkmfelcfaa", sum := "899897cdbbee48a8fd34451e2f371306c151aa8e9c9e3ade56f7065d861eaddf", func := "fellwalker/fellkeep.MapsAgain", spec := "mapsAgain", inPlace := ["internal/bytealg.IndexByteString", "internal/abi.NoEscape"], apart := false, narrowed := true }
def MapsAgainUptoSaid : Prop := mapsAgainUptoRow.holds Try.pinned (OpenSpec.upto mapsAgainSpec)

/-- 'fellkeep.BellEither', WHERE WHAT IT READS IS OF BULK AT MOST 1048576: true; the input reads as it did. -/
def bellEitherUptoRow : OpenClaim := { program := "ytlcgkbkmfelcfaa", sum := "899897cdbbee48a8fd34451e2f371306c151aa8e9c9e3ade56f7065d861eaddf", func := "fellwalker/fellkeep.BellEither", spec := "bellEither", unfollowed := true, recurses := true, apart := false, narrowed := true }
def BellEitherUptoSaid : Prop := bellEitherUptoRow.holds Try.pinned (OpenSpec.upto bellEitherSpec)

/-- 'fellkeep.NetTwice', WHERE WHAT IT READS IS OF BULK AT MOST 1048576: true; the input reads as it did. -/
def netTwiceUptoRow : OpenClaim := { program := "ytlcgkbkmfelcfaa", sum := "899897cdbbee48a8fd34451e2f371306c151aa8e9c9e3ade56f7065d861eaddf", func := "fellwalker/fellkeep.NetTwice", spec := "netTwice", recurses := true, apart := false, narrowed := true }
def NetTwiceUptoSaid : Prop := netTwiceUptoRow.holds Try.pinned (OpenSpec.upto netTwiceSpec)

/-- 'fellkeep.CompLeads', WHERE WHAT IT READS IS OF BULK AT MOST 1048576: true; the input reads as it did. -/
def compLeadsUptoRow : OpenClaim := { program := "ytlcgkbkmfelcfaa", sum := "899897cdbbee48a8fd34451e2f371306c151aa8e9c9e3ade56f7065d861eaddf", func := "fellwalker/fellkeep.CompLeads", spec := "compLeads", unfollowed := true, recurses := true, apart := false, narrowed := true }
def CompLeadsUptoSaid : Prop := compLeadsUptoRow.holds Try.pinned (OpenSpec.upto compLeadsSpec)

/-- 'fellkeep.CompOrder', WHERE WHAT IT READS IS OF BULK AT MOST 1048576: true; the input reads as it did. -/
def compOrderUptoRow : OpenClaim := { program := "ytlcgkbkmfelcfaa", sum := "899897cdbbee48a8fd34451e2f371306c151aa8e9c9e3ade56f7065d861eaddf", func := "fellwalker/fellkeep.CompOrder", spec := "compOrder", unfollowed := true, recurses := true, apart := false, narrowed := true }
def CompOrderUptoSaid : Prop := compOrderUptoRow.holds Try.pinned (OpenSpec.upto compOrderSpec)

/-- 'fellkeep.DagKnots', WHERE WHAT IT READS IS OF BULK AT MOST 1048576: true; the input reads as it did. -/
def dagKnotsUptoRow : OpenClaim := { program := "ytlcgkbkmfelcfaa", sum := "899897cdbbee48a8fd34451e2f371306c151aa8e9c9e3ade56f7065d861eaddf", func := "fellwalker/fellkeep.DagKnots", spec := "dagKnots", unfollowed := true, recurses := true, apart := false, narrowed := true }
def DagKnotsUptoSaid : Prop := dagKnotsUptoRow.holds Try.pinned (OpenSpec.upto dagKnotsSpec)

/-- 'felltop.TopKnots', WHERE WHAT IT READS IS OF BULK AT MOST 1048576: true; the input reads as it did. -/
def topKnotsUptoRow : OpenClaim := { program := "ytlcgkbkmfelcfaa", sum := "899897cdbbee48a8fd34451e2f371306c151aa8e9c9e3ade56f7065d861eaddf", func := "fellwalker/felltop.TopKnots", spec := "topKnots", unfollowed := true, recurses := true, apart := false, narrowed := true }
def TopKnotsUptoSaid : Prop := topKnotsUptoRow.holds Try.pinned (OpenSpec.upto topKnotsSpec)

/-- 'fellkeep.FlowTurns', WHERE WHAT IT READS IS OF BULK AT MOST 1048576: true; the input reads as it did. -/
def flowTurnsUptoRow : OpenClaim := { program := "ytlcgkbkmfelcfaa", sum := "899897cdbbee48a8fd34451e2f371306c151aa8e9c9e3ade56f7065d861eaddf", func := "fellwalker/fellkeep.FlowTurns", spec := "flowTurns", apart := false, narrowed := true }
def FlowTurnsUptoSaid : Prop := flowTurnsUptoRow.holds Try.pinned (OpenSpec.upto flowTurnsSpec)

/-- 'fellkeep.FlowMore', WHERE WHAT IT READS IS OF BULK AT MOST 1048576: true; the input reads as it did. -/
def flowMoreUptoRow : OpenClaim := { program := "ytlcgkbkmfelcfaa", sum := "899897cdbbee48a8fd34451e2f371306c151aa8e9c9e3ade56f7065d861eaddf", func := "fellwalker/fellkeep.FlowMore", spec := "flowMore", apart := false, narrowed := true }
def FlowMoreUptoSaid : Prop := flowMoreUptoRow.holds Try.pinned (OpenSpec.upto flowMoreSpec)

/-- 'fellkeep.FlowWays', WHERE WHAT IT READS IS OF BULK AT MOST 1048576: true; the input reads as it did. -/
def flowWaysUptoRow : OpenClaim := { program := "ytlcgkbkmfelcfaa", sum := "899897cdbbee48a8fd34451e2f371306c151aa8e9c9e3ade56f7065d861eaddf", func := "fellwalker/fellkeep.FlowWays", spec := "flowWays", unfollowed := true, recurses := true, apart := false, narrowed := true }
def FlowWaysUptoSaid : Prop := flowWaysUptoRow.holds Try.pinned (OpenSpec.upto flowWaysSpec)

end Rows
end Go.Proofs.Ytlcgkbkmfelcfaa
