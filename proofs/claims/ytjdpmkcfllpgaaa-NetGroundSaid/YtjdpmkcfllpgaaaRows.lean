/-
  No cell of these rows narrows 'for every input' (looked for: loops, veiled, ifaces, maps, wideKeys, modest, calm, conditions, laid).
  DERIVED. THE GIVEN ROWS OF THIS SEAT. 12 by the template 'for every input the law returns true; each argument reads behind the call as it read before'; 0 by the template 'total and deterministic' (their statements: YtjdpmkcfllpgaaaTotals.lean).
  GIVEN WITH THE SEED: the statements are not yours to turn. If you find one false, say at which input.
  Laid BY PROGRAM, IN A SANDBOX (cutbox-rows.mjs): the forced cells as the released guide's own fill.sh prints them over the translation 61d7ed3418eec2f0… (all of the seat's roots in one cut). By AI agents, Wed Nov 11 2026. No macro, syntax, notation, axiom, sorry.
-/
import Derived.Test.YtjdpmkcfllpgaaaChecked
import GoSem.Claim
import GoSem.ClaimJoined
import GoSem.ClaimMapViews
import Derived.JoinedTies
import Derived.KernelRfl
namespace Go.Proofs.Ytjdpmkcfllpgaaa
/- THE CELL 'sum', in the pinned program and in every row, IS THE sha256 OF THE DUMP (.gsa) THAT YtjdpmkcfllpgaaaProg.lean LOADS. Nothing in Lean hashes anything: it is a label: what it is worth is what the hold of that sum in a sandbox is worth. -/
noncomputable def Try.pinned : Pinned := { name := "ytjdpmkcfllpgaaa", sum := "61d7ed3418eec2f0b314a01dbe243aaf526727f6c5f6075759c2d95de2cbbf43", checked := Try.checked }
namespace Rows
def none {H : Type} : Left H := { results := [], args := [] }

/-- 'fellkeep.NetGround': WHATEVER THE INPUT: true; the input reads as it did. -/
def netGroundSpec : ChangeSpec := { name := "netGround", fn := fun _ => fun
  | [d] => { results := [.lit (.bool true)], args := [d] }
  | _ => none }
def netGroundRow : OpenClaim := { program := "ytjdpmkcfllpgaaa", sum := "61d7ed3418eec2f0b314a01dbe243aaf526727f6c5f6075759c2d95de2cbbf43", func := "fellwalker/fellkeep.NetGround", spec := "netGround", unfollowed := true, recurses := true, apart := false }
def NetGroundSaid : Prop := netGroundRow.holds Try.pinned (OpenSpec.ofChange netGroundSpec)

/-- ITS FALSE NEIGHBOUR: 'it returns false'. Refute it at one input. -/
def netGroundWrong : ChangeSpec := { name := "netGround", fn := fun _ => fun
  | [d] => { results := [.lit (.bool false)], args := [d] }
  | _ => none }
def NetGroundWrongFalsely : Prop := netGroundRow.holds Try.pinned (OpenSpec.ofChange netGroundWrong)

/-- 'fellkeep.DijkTight': WHATEVER THE INPUT: true; the input reads as it did. -/
def dijkTightSpec : ChangeSpec := { name := "dijkTight", fn := fun _ => fun
  | [d1, d2] => { results := [.lit (.bool true)], args := [d1, d2] }
  | _ => none }
def dijkTightRow : OpenClaim := { program := "ytjdpmkcfllpgaaa", sum := "61d7ed3418eec2f0b314a01dbe243aaf526727f6c5f6075759c2d95de2cbbf43", func := "fellwalker/fellkeep.DijkTight", spec := "dijkTight", unfollowed := true, recurses := true, apart := false }
def DijkTightSaid : Prop := dijkTightRow.holds Try.pinned (OpenSpec.ofChange dijkTightSpec)

/-- ITS FALSE NEIGHBOUR: 'it returns false'. Refute it at one input. -/
def dijkTightWrong : ChangeSpec := { name := "dijkTight", fn := fun _ => fun
  | [d1, d2] => { results := [.lit (.bool false)], args := [d1, d2] }
  | _ => none }
def DijkTightWrongFalsely : Prop := dijkTightRow.holds Try.pinned (OpenSpec.ofChange dijkTightWrong)

/-- 'fellkeep.DijkTurns': WHATEVER THE INPUT: true; the input reads as it did. -/
def dijkTurnsSpec : ChangeSpec := { name := "dijkTurns", fn := fun _ => fun
  | [d1, d2, d3] => { results := [.lit (.bool true)], args := [d1, d2, d3] }
  | _ => none }
def dijkTurnsRow : OpenClaim := { program := "ytjdpmkcfllpgaaa", sum := "61d7ed3418eec2f0b314a01dbe243aaf526727f6c5f6075759c2d95de2cbbf43", func := "fellwalker/fellkeep.DijkTurns", spec := "dijkTurns", unfollowed := true, recurses := true, apart := false }
def DijkTurnsSaid : Prop := dijkTurnsRow.holds Try.pinned (OpenSpec.ofChange dijkTurnsSpec)

/-- ITS FALSE NEIGHBOUR: 'it returns false'. Refute it at one input. -/
def dijkTurnsWrong : ChangeSpec := { name := "dijkTurns", fn := fun _ => fun
  | [d1, d2, d3] => { results := [.lit (.bool false)], args := [d1, d2, d3] }
  | _ => none }
def DijkTurnsWrongFalsely : Prop := dijkTurnsRow.holds Try.pinned (OpenSpec.ofChange dijkTurnsWrong)

/-- 'fellkeep.BellEither': WHATEVER THE INPUT: true; the input reads as it did. -/
def bellEitherSpec : ChangeSpec := { name := "bellEither", fn := fun _ => fun
  | [d] => { results := [.lit (.bool true)], args := [d] }
  | _ => none }
def bellEitherRow : OpenClaim := { program := "ytjdpmkcfllpgaaa", sum := "61d7ed3418eec2f0b314a01dbe243aaf526727f6c5f6075759c2d95de2cbbf43", func := "fellwalker/fellkeep.BellEither", spec := "bellEither", unfollowed := true, recurses := true, apart := false }
def BellEitherSaid : Prop := bellEitherRow.holds Try.pinned (OpenSpec.ofChange bellEitherSpec)

/-- ITS FALSE NEIGHBOUR: 'it returns false'. Refute it at one input. -/
def bellEitherWrong : ChangeSpec := { name := "bellEither", fn := fun _ => fun
  | [d] => { results := [.lit (.bool false)], args := [d] }
  | _ => none }
def BellEitherWrongFalsely : Prop := bellEitherRow.holds Try.pinned (OpenSpec.ofChange bellEitherWrong)

/-- 'fellkeep.BellSame': WHATEVER THE INPUT: true; the input reads as it did. -/
def bellSameSpec : ChangeSpec := { name := "bellSame", fn := fun _ => fun
  | [d1, d2] => { results := [.lit (.bool true)], args := [d1, d2] }
  | _ => none }
def bellSameRow : OpenClaim := { program := "ytjdpmkcfllpgaaa", sum := "61d7ed3418eec2f0b314a01dbe243aaf526727f6c5f6075759c2d95de2cbbf43", func := "fellwalker/fellkeep.BellSame", spec := "bellSame", unfollowed := true, recurses := true, apart := false }
def BellSameSaid : Prop := bellSameRow.holds Try.pinned (OpenSpec.ofChange bellSameSpec)

/-- ITS FALSE NEIGHBOUR: 'it returns false'. Refute it at one input. -/
def bellSameWrong : ChangeSpec := { name := "bellSame", fn := fun _ => fun
  | [d1, d2] => { results := [.lit (.bool false)], args := [d1, d2] }
  | _ => none }
def BellSameWrongFalsely : Prop := bellSameRow.holds Try.pinned (OpenSpec.ofChange bellSameWrong)

/-- 'fellkeep.DijkParts': WHATEVER THE INPUT: true; the input reads as it did. -/
def dijkPartsSpec : ChangeSpec := { name := "dijkParts", fn := fun _ => fun
  | [d1, d2, d3, d4, d5] => { results := [.lit (.bool true)], args := [d1, d2, d3, d4, d5] }
  | _ => none }
def dijkPartsRow : OpenClaim := { program := "ytjdpmkcfllpgaaa", sum := "61d7ed3418eec2f0b314a01dbe243aaf526727f6c5f6075759c2d95de2cbbf43", func := "fellwalker/fellkeep.DijkParts", spec := "dijkParts", unfollowed := true, recurses := true, apart := false }
def DijkPartsSaid : Prop := dijkPartsRow.holds Try.pinned (OpenSpec.ofChange dijkPartsSpec)

/-- ITS FALSE NEIGHBOUR: 'it returns false'. Refute it at one input. -/
def dijkPartsWrong : ChangeSpec := { name := "dijkParts", fn := fun _ => fun
  | [d1, d2, d3, d4, d5] => { results := [.lit (.bool false)], args := [d1, d2, d3, d4, d5] }
  | _ => none }
def DijkPartsWrongFalsely : Prop := dijkPartsRow.holds Try.pinned (OpenSpec.ofChange dijkPartsWrong)

/-- 'fellkeep.DijkWalks': WHATEVER THE INPUT: true; the input reads as it did. -/
def dijkWalksSpec : ChangeSpec := { name := "dijkWalks", fn := fun _ => fun
  | [d1, d2, d3] => { results := [.lit (.bool true)], args := [d1, d2, d3] }
  | _ => none }
def dijkWalksRow : OpenClaim := { program := "ytjdpmkcfllpgaaa", sum := "61d7ed3418eec2f0b314a01dbe243aaf526727f6c5f6075759c2d95de2cbbf43", func := "fellwalker/fellkeep.DijkWalks", spec := "dijkWalks", unfollowed := true, recurses := true, apart := false }
def DijkWalksSaid : Prop := dijkWalksRow.holds Try.pinned (OpenSpec.ofChange dijkWalksSpec)

/-- ITS FALSE NEIGHBOUR: 'it returns false'. Refute it at one input. -/
def dijkWalksWrong : ChangeSpec := { name := "dijkWalks", fn := fun _ => fun
  | [d1, d2, d3] => { results := [.lit (.bool false)], args := [d1, d2, d3] }
  | _ => none }
def DijkWalksWrongFalsely : Prop := dijkWalksRow.holds Try.pinned (OpenSpec.ofChange dijkWalksWrong)

/-- 'fellkeep.JohnSame': WHATEVER THE INPUT: true; the input reads as it did. -/
def johnSameSpec : ChangeSpec := { name := "johnSame", fn := fun _ => fun
  | [d1, d2] => { results := [.lit (.bool true)], args := [d1, d2] }
  | _ => none }
def johnSameRow : OpenClaim := { program := "ytjdpmkcfllpgaaa", sum := "61d7ed3418eec2f0b314a01dbe243aaf526727f6c5f6075759c2d95de2cbbf43", func := "fellwalker/fellkeep.JohnSame", spec := "johnSame", unfollowed := true, recurses := true, apart := false }
def JohnSameSaid : Prop := johnSameRow.holds Try.pinned (OpenSpec.ofChange johnSameSpec)

/-- ITS FALSE NEIGHBOUR: 'it returns false'. Refute it at one input. -/
def johnSameWrong : ChangeSpec := { name := "johnSame", fn := fun _ => fun
  | [d1, d2] => { results := [.lit (.bool false)], args := [d1, d2] }
  | _ => none }
def JohnSameWrongFalsely : Prop := johnSameRow.holds Try.pinned (OpenSpec.ofChange johnSameWrong)

/-- 'fellkeep.NetTwice': WHATEVER THE INPUT: true; the input reads as it did. -/
def netTwiceSpec : ChangeSpec := { name := "netTwice", fn := fun _ => fun
  | [d] => { results := [.lit (.bool true)], args := [d] }
  | _ => none }
def netTwiceRow : OpenClaim := { program := "ytjdpmkcfllpgaaa", sum := "61d7ed3418eec2f0b314a01dbe243aaf526727f6c5f6075759c2d95de2cbbf43", func := "fellwalker/fellkeep.NetTwice", spec := "netTwice", recurses := true, apart := false }
def NetTwiceSaid : Prop := netTwiceRow.holds Try.pinned (OpenSpec.ofChange netTwiceSpec)

/-- ITS FALSE NEIGHBOUR: 'it returns false'. Refute it at one input. -/
def netTwiceWrong : ChangeSpec := { name := "netTwice", fn := fun _ => fun
  | [d] => { results := [.lit (.bool false)], args := [d] }
  | _ => none }
def NetTwiceWrongFalsely : Prop := netTwiceRow.holds Try.pinned (OpenSpec.ofChange netTwiceWrong)

/-- 'fellkeep.SpanJoins': WHATEVER THE INPUT: true; the input reads as it did. -/
def spanJoinsSpec : ChangeSpec := { name := "spanJoins", fn := fun _ => fun
  | [d] => { results := [.lit (.bool true)], args := [d] }
  | _ => none }
def spanJoinsRow : OpenClaim := { program := "ytjdpmkcfllpgaaa", sum := "61d7ed3418eec2f0b314a01dbe243aaf526727f6c5f6075759c2d95de2cbbf43", func := "fellwalker/fellkeep.SpanJoins", spec := "spanJoins", unfollowed := true, recurses := true, apart := false }
def SpanJoinsSaid : Prop := spanJoinsRow.holds Try.pinned (OpenSpec.ofChange spanJoinsSpec)

/-- ITS FALSE NEIGHBOUR: 'it returns false'. Refute it at one input. -/
def spanJoinsWrong : ChangeSpec := { name := "spanJoins", fn := fun _ => fun
  | [d] => { results := [.lit (.bool false)], args := [d] }
  | _ => none }
def SpanJoinsWrongFalsely : Prop := spanJoinsRow.holds Try.pinned (OpenSpec.ofChange spanJoinsWrong)

/-- 'fellkeep.SpanLeast': WHATEVER THE INPUT: true; the input reads as it did. -/
def spanLeastSpec : ChangeSpec := { name := "spanLeast", fn := fun _ => fun
  | [d1, d2] => { results := [.lit (.bool true)], args := [d1, d2] }
  | _ => none }
def spanLeastRow : OpenClaim := { program := "ytjdpmkcfllpgaaa", sum := "61d7ed3418eec2f0b314a01dbe243aaf526727f6c5f6075759c2d95de2cbbf43", func := "fellwalker/fellkeep.SpanLeast", spec := "spanLeast", unfollowed := true, recurses := true, apart := false }
def SpanLeastSaid : Prop := spanLeastRow.holds Try.pinned (OpenSpec.ofChange spanLeastSpec)

/-- ITS FALSE NEIGHBOUR: 'it returns false'. Refute it at one input. -/
def spanLeastWrong : ChangeSpec := { name := "spanLeast", fn := fun _ => fun
  | [d1, d2] => { results := [.lit (.bool false)], args := [d1, d2] }
  | _ => none }
def SpanLeastWrongFalsely : Prop := spanLeastRow.holds Try.pinned (OpenSpec.ofChange spanLeastWrong)

/-- 'fellkeep.DagForward': WHATEVER THE INPUT: true; the input reads as it did. -/
def dagForwardSpec : ChangeSpec := { name := "dagForward", fn := fun _ => fun
  | [d] => { results := [.lit (.bool true)], args := [d] }
  | _ => none }
def dagForwardRow : OpenClaim := { program := "ytjdpmkcfllpgaaa", sum := "61d7ed3418eec2f0b314a01dbe243aaf526727f6c5f6075759c2d95de2cbbf43", func := "fellwalker/fellkeep.DagForward", spec := "dagForward", unfollowed := true, recurses := true, apart := false }
def DagForwardSaid : Prop := dagForwardRow.holds Try.pinned (OpenSpec.ofChange dagForwardSpec)

/-- ITS FALSE NEIGHBOUR: 'it returns false'. Refute it at one input. -/
def dagForwardWrong : ChangeSpec := { name := "dagForward", fn := fun _ => fun
  | [d] => { results := [.lit (.bool false)], args := [d] }
  | _ => none }
def DagForwardWrongFalsely : Prop := dagForwardRow.holds Try.pinned (OpenSpec.ofChange dagForwardWrong)

/- THE SECOND FORM. 'bulk': how many values and letters a reading holds, each counted each time it is reached (what is shared counts as often as it is met; a slice's spare places count too). A statement '..UptoSaid' is the law's where the arguments, and the package variables that the reading takes, are together of bulk at most 1048576: NARROWER than '..Said'. Prove '..Said' where nothing that the law and all that it calls make is longer than what came in: it says more and counts as full. Else prove '..UptoSaid'. A law counts once. -/
mutual
def uptoBulk {H : Type} : DataW H → Nat
  | .lit (.string bytes) => bytes.length + 1
  | .lit _ => 1
  | .nil => 1
  | .ptr d => uptoBulk d + 1
  | .slice elems spare => uptoBulkAll elems + uptoBulkAll spare + 1
  | .agg parts => uptoBulkAll parts + 1
  | .iface _ d => uptoBulk d + 1
  | .map entries => uptoBulkEntries entries + 1
  | .held _ => 1
def uptoBulkAll {H : Type} : List (DataW H) → Nat
  | [] => 0
  | d :: r => uptoBulk d + uptoBulkAll r
def uptoBulkEntries {H : Type} : List (Lit × DataW H) → Nat
  | [] => 0
  | x :: r => uptoBulkEntry x + uptoBulkEntries r
def uptoBulkEntry {H : Type} : Lit × DataW H → Nat
  | (.string bytes, d) => bytes.length + uptoBulk d + 1
  | (_, d) => uptoBulk d + 1
 end
def uptoSmall : (H : Type) → List (DataW H) → Bool := fun _ ds => decide (uptoBulkAll ds ≤ 1048576)
def OpenSpec.upto (s : _root_.Go.ChangeSpec) : _root_.Go.OpenSpec := { _root_.Go.OpenSpec.ofChange s with cond := some uptoSmall }

/-- 'fellkeep.NetGround', WHERE WHAT IT READS IS OF BULK AT MOST 1048576: true; the input reads as it did. -/
def netGroundUptoRow : OpenClaim := { program := "ytjdpmkcfllpgaaa", sum := "61d7ed3418eec2f0b314a01dbe243aaf526727f6c5f6075759c2d95de2cbbf43", func := "fellwalker/fellkeep.NetGround", spec := "netGround", unfollowed := true, recurses := true, apart := false, narrowed := true }
def NetGroundUptoSaid : Prop := netGroundUptoRow.holds Try.pinned (OpenSpec.upto netGroundSpec)

/-- 'fellkeep.DijkTight', WHERE WHAT IT READS IS OF BULK AT MOST 1048576: true; the input reads as it did. -/
def dijkTightUptoRow : OpenClaim := { program := "ytjdpmkcfllpgaaa", sum := "61d7ed3418eec2f0b314a01dbe243aaf526727f6c5f6075759c2d95de2cbbf43", func := "fellwalker/fellkeep.DijkTight", spec := "dijkTight", unfollowed := true, recurses := true, apart := false, narrowed := true }
def DijkTightUptoSaid : Prop := dijkTightUptoRow.holds Try.pinned (OpenSpec.upto dijkTightSpec)

/-- 'fellkeep.DijkTurns', WHERE WHAT IT READS IS OF BULK AT MOST 1048576: true; the input reads as it did. -/
def dijkTurnsUptoRow : OpenClaim := { program := "ytjdpmkcfllpgaaa", sum := "61d7ed3418eec2f0b314a01dbe243aaf526727f6c5f6075759c2d95de2cbbf43", func := "fellwalker/fellkeep.DijkTurns", spec := "dijkTurns", unfollowed := true, recurses := true, apart := false, narrowed := true }
def DijkTurnsUptoSaid : Prop := dijkTurnsUptoRow.holds Try.pinned (OpenSpec.upto dijkTurnsSpec)

/-- 'fellkeep.BellEither', WHERE WHAT IT READS IS OF BULK AT MOST 1048576: true; the input reads as it did. -/
def bellEitherUptoRow : OpenClaim := { program := "ytjdpmkcfllpgaaa", sum := "61d7ed3418eec2f0b314a01dbe243aaf526727f6c5f6075759c2d95de2cbbf43", func := "fellwalker/fellkeep.BellEither", spec := "bellEither", unfollowed := true, recurses := true, apart := false, narrowed := true }
def BellEitherUptoSaid : Prop := bellEitherUptoRow.holds Try.pinned (OpenSpec.upto bellEitherSpec)

/-- 'fellkeep.BellSame', WHERE WHAT IT READS IS OF BULK AT MOST 1048576: true; the input reads as it did. -/
def bellSameUptoRow : OpenClaim := { program := "ytjdpmkcfllpgaaa", sum := "61d7ed3418eec2f0b314a01dbe243aaf526727f6c5f6075759c2d95de2cbbf43", func := "fellwalker/fellkeep.BellSame", spec := "bellSame", unfollowed := true, recurses := true, apart := false, narrowed := true }
def BellSameUptoSaid : Prop := bellSameUptoRow.holds Try.pinned (OpenSpec.upto bellSameSpec)

/-- 'fellkeep.DijkParts', WHERE WHAT IT READS IS OF BULK AT MOST 1048576: true; the input reads as it did. -/
def dijkPartsUptoRow : OpenClaim := { program := "ytjdpmkcfllpgaaa", sum := "61d7ed3418eec2f0b314a01dbe243aaf526727f6c5f6075759c2d95de2cbbf43", func := "fellwalker/fellkeep.DijkParts", spec := "dijkParts", unfollowed := true, recurses := true, apart := false, narrowed := true }
def DijkPartsUptoSaid : Prop := dijkPartsUptoRow.holds Try.pinned (OpenSpec.upto dijkPartsSpec)

/-- 'fellkeep.DijkWalks', WHERE WHAT IT READS IS OF BULK AT MOST 1048576: true; the input reads as it did. -/
def dijkWalksUptoRow : OpenClaim := { program := "ytjdpmkcfllpgaaa", sum := "61d7ed3418eec2f0b314a01dbe243aaf526727f6c5f6075759c2d95de2cbbf43", func := "fellwalker/fellkeep.DijkWalks", spec := "dijkWalks", unfollowed := true, recurses := true, apart := false, narrowed := true }
def DijkWalksUptoSaid : Prop := dijkWalksUptoRow.holds Try.pinned (OpenSpec.upto dijkWalksSpec)

/-- 'fellkeep.JohnSame', WHERE WHAT IT READS IS OF BULK AT MOST 1048576: true; the input reads as it did. -/
def johnSameUptoRow : OpenClaim := { program := "ytjdpmkcfllpgaaa", sum := "61d7ed3418eec2f0b314a01dbe243aaf526727f6c5f6075759c2d95de2cbbf43", func := "fellwalker/fellkeep.JohnSame", spec := "johnSame", unfollowed := true, recurses := true, apart := false, narrowed := true }
def JohnSameUptoSaid : Prop := johnSameUptoRow.holds Try.pinned (OpenSpec.upto johnSameSpec)

/-- 'fellkeep.NetTwice', WHERE WHAT IT READS IS OF BULK AT MOST 1048576: true; the input reads as it did. -/
def netTwiceUptoRow : OpenClaim := { program := "ytjdpmkcfllpgaaa", sum := "61d7ed3418eec2f0b314a01dbe243aaf526727f6c5f6075759c2d95de2cbbf43", func := "fellwalker/fellkeep.NetTwice", spec := "netTwice", recurses := true, apart := false, narrowed := true }
def NetTwiceUptoSaid : Prop := netTwiceUptoRow.holds Try.pinned (OpenSpec.upto netTwiceSpec)

/-- 'fellkeep.SpanJoins', WHERE WHAT IT READS IS OF BULK AT MOST 1048576: true; the input reads as it did. -/
def spanJoinsUptoRow : OpenClaim := { program := "ytjdpmkcfllpgaaa", sum := "61d7ed3418eec2f0b314a01dbe243aaf526727f6c5f6075759c2d95de2cbbf43", func := "fellwalker/fellkeep.SpanJoins", spec := "spanJoins", unfollowed := true, recurses := true, apart := false, narrowed := true }
def SpanJoinsUptoSaid : Prop := spanJoinsUptoRow.holds Try.pinned (OpenSpec.upto spanJoinsSpec)

/-- 'fellkeep.SpanLeast', WHERE WHAT IT READS IS OF BULK AT MOST 1048576: true; the input reads as it did. -/
def spanLeastUptoRow : OpenClaim := { program := "ytjdpmkcfllpgaaa", sum := "61d7ed3418eec2f0b314a01dbe243aaf526727f6c5f6075759c2d95de2cbbf43", func := "fellwalker/fellkeep.SpanLeast", spec := "spanLeast", unfollowed := true, recurses := true, apart := false, narrowed := true }
def SpanLeastUptoSaid : Prop := spanLeastUptoRow.holds Try.pinned (OpenSpec.upto spanLeastSpec)

/-- 'fellkeep.DagForward', WHERE WHAT IT READS IS OF BULK AT MOST 1048576: true; the input reads as it did. -/
def dagForwardUptoRow : OpenClaim := { program := "ytjdpmkcfllpgaaa", sum := "61d7ed3418eec2f0b314a01dbe243aaf526727f6c5f6075759c2d95de2cbbf43", func := "fellwalker/fellkeep.DagForward", spec := "dagForward", unfollowed := true, recurses := true, apart := false, narrowed := true }
def DagForwardUptoSaid : Prop := dagForwardUptoRow.holds Try.pinned (OpenSpec.upto dagForwardSpec)

end Rows
end Go.Proofs.Ytjdpmkcfllpgaaa
