/-
  No cell of these rows narrows 'for every input' (looked for: loops, veiled, ifaces, maps, wideKeys, modest, calm, conditions, laid).
  DERIVED. THE GIVEN ROWS OF THIS SEAT. 6 by the template 'for every input the law returns true; each argument reads behind the call as it read before'; 0 by the template 'total and deterministic' (their statements: YtpoolpaagbeokaaTotals.lean).
  GIVEN WITH THE SEED: the statements are not yours to turn. If you find one false, say at which input.
  Laid BY PROGRAM, IN A SANDBOX (cutbox-rows.mjs): the forced cells as the released guide's own fill.sh prints them over the translation 81fb7672c95f64c4… (all of the seat's roots in one cut). By AI agents, Wed Nov 11 2026. No macro, syntax, notation, axiom, sorry.
-/
import Derived.Test.YtpoolpaagbeokaaChecked
import GoSem.Claim
import GoSem.ClaimJoined
import GoSem.ClaimMapViews
import Derived.JoinedTies
import Derived.KernelRfl
namespace Go.Proofs.Ytpoolpaagbeokaa
/- THE CELL 'sum', in the pinned program and in every row, IS THE sha256 OF THE DUMP (.gsa) THAT YtpoolpaagbeokaaProg.lean LOADS. Nothing in Lean hashes anything: it is a label: what it is worth is what the hold of that sum in a sandbox is worth. -/
noncomputable def Try.pinned : Pinned := { name := "ytpoolpaagbeokaa", sum := "81fb7672c95f64c47e85806a202671aee3fb13451bc6e3d0037f817e21e902a8", checked := Try.checked }
namespace Rows
def none {H : Type} : Left H := { results := [], args := [] }

/-- 'fellkeep.ServeFrames': WHATEVER THE INPUT: true; the input reads as it did. -/
def serveFramesSpec : ChangeSpec := { name := "serveFrames", fn := fun _ => fun
  | [d1, d2, d3, d4] => { results := [.lit (.bool true)], args := [d1, d2, d3, d4] }
  | _ => none }
def serveFramesRow : OpenClaim := { program := "ytpoolpaagbeokaa", sum := "81fb7672c95f64c47e85806a202671aee3fb13451bc6e3d0037f817e21e902a8", func := "fellwalker/fellkeep.ServeFrames", spec := "serveFrames", unfollowed := true, recurses := true, apart := false }
def ServeFramesSaid : Prop := serveFramesRow.holds Try.pinned (OpenSpec.ofChange serveFramesSpec)

/-- ITS FALSE NEIGHBOUR: 'it returns false'. Refute it at one input. -/
def serveFramesWrong : ChangeSpec := { name := "serveFrames", fn := fun _ => fun
  | [d1, d2, d3, d4] => { results := [.lit (.bool false)], args := [d1, d2, d3, d4] }
  | _ => none }
def ServeFramesWrongFalsely : Prop := serveFramesRow.holds Try.pinned (OpenSpec.ofChange serveFramesWrong)

/-- 'fellkeep.ServeFair': WHATEVER THE INPUT: true; the input reads as it did. -/
def serveFairSpec : ChangeSpec := { name := "serveFair", fn := fun _ => fun
  | [d1, d2, d3, d4, d5] => { results := [.lit (.bool true)], args := [d1, d2, d3, d4, d5] }
  | _ => none }
def serveFairRow : OpenClaim := { program := "ytpoolpaagbeokaa", sum := "81fb7672c95f64c47e85806a202671aee3fb13451bc6e3d0037f817e21e902a8", func := "fellwalker/fellkeep.ServeFair", spec := "serveFair", unfollowed := true, recurses := true, apart := false }
def ServeFairSaid : Prop := serveFairRow.holds Try.pinned (OpenSpec.ofChange serveFairSpec)

/-- ITS FALSE NEIGHBOUR: 'it returns false'. Refute it at one input. -/
def serveFairWrong : ChangeSpec := { name := "serveFair", fn := fun _ => fun
  | [d1, d2, d3, d4, d5] => { results := [.lit (.bool false)], args := [d1, d2, d3, d4, d5] }
  | _ => none }
def ServeFairWrongFalsely : Prop := serveFairRow.holds Try.pinned (OpenSpec.ofChange serveFairWrong)

/-- 'fellkeep.ServeEnds': WHATEVER THE INPUT: true; the input reads as it did. -/
def serveEndsSpec : ChangeSpec := { name := "serveEnds", fn := fun _ => fun
  | [d1, d2, d3] => { results := [.lit (.bool true)], args := [d1, d2, d3] }
  | _ => none }
def serveEndsRow : OpenClaim := { program := "ytpoolpaagbeokaa", sum := "81fb7672c95f64c47e85806a202671aee3fb13451bc6e3d0037f817e21e902a8", func := "fellwalker/fellkeep.ServeEnds", spec := "serveEnds", unfollowed := true, recurses := true, apart := false }
def ServeEndsSaid : Prop := serveEndsRow.holds Try.pinned (OpenSpec.ofChange serveEndsSpec)

/-- ITS FALSE NEIGHBOUR: 'it returns false'. Refute it at one input. -/
def serveEndsWrong : ChangeSpec := { name := "serveEnds", fn := fun _ => fun
  | [d1, d2, d3] => { results := [.lit (.bool false)], args := [d1, d2, d3] }
  | _ => none }
def ServeEndsWrongFalsely : Prop := serveEndsRow.holds Try.pinned (OpenSpec.ofChange serveEndsWrong)

/-- 'fellkeep.ServeStale': WHATEVER THE INPUT: true; the input reads as it did. -/
def serveStaleSpec : ChangeSpec := { name := "serveStale", fn := fun _ => fun
  | [d1, d2, d3, d4, d5, d6] => { results := [.lit (.bool true)], args := [d1, d2, d3, d4, d5, d6] }
  | _ => none }
def serveStaleRow : OpenClaim := { program := "ytpoolpaagbeokaa", sum := "81fb7672c95f64c47e85806a202671aee3fb13451bc6e3d0037f817e21e902a8", func := "fellwalker/fellkeep.ServeStale", spec := "serveStale", unfollowed := true, recurses := true, apart := false }
def ServeStaleSaid : Prop := serveStaleRow.holds Try.pinned (OpenSpec.ofChange serveStaleSpec)

/-- ITS FALSE NEIGHBOUR: 'it returns false'. Refute it at one input. -/
def serveStaleWrong : ChangeSpec := { name := "serveStale", fn := fun _ => fun
  | [d1, d2, d3, d4, d5, d6] => { results := [.lit (.bool false)], args := [d1, d2, d3, d4, d5, d6] }
  | _ => none }
def ServeStaleWrongFalsely : Prop := serveStaleRow.holds Try.pinned (OpenSpec.ofChange serveStaleWrong)

/-- 'fellkeep.ServeOwn': WHATEVER THE INPUT: true; the input reads as it did. -/
def serveOwnSpec : ChangeSpec := { name := "serveOwn", fn := fun _ => fun
  | [d1, d2, d3, d4] => { results := [.lit (.bool true)], args := [d1, d2, d3, d4] }
  | _ => none }
def serveOwnRow : OpenClaim := { program := "ytpoolpaagbeokaa", sum := "81fb7672c95f64c47e85806a202671aee3fb13451bc6e3d0037f817e21e902a8", func := "fellwalker/fellkeep.ServeOwn", spec := "serveOwn", unfollowed := true, recurses := true, apart := false }
def ServeOwnSaid : Prop := serveOwnRow.holds Try.pinned (OpenSpec.ofChange serveOwnSpec)

/-- ITS FALSE NEIGHBOUR: 'it returns false'. Refute it at one input. -/
def serveOwnWrong : ChangeSpec := { name := "serveOwn", fn := fun _ => fun
  | [d1, d2, d3, d4] => { results := [.lit (.bool false)], args := [d1, d2, d3, d4] }
  | _ => none }
def ServeOwnWrongFalsely : Prop := serveOwnRow.holds Try.pinned (OpenSpec.ofChange serveOwnWrong)

/-- 'fellkeep.ServeGood': WHATEVER THE INPUT: true; the input reads as it did. -/
def serveGoodSpec : ChangeSpec := { name := "serveGood", fn := fun _ => fun
  | [d1, d2, d3, d4, d5] => { results := [.lit (.bool true)], args := [d1, d2, d3, d4, d5] }
  | _ => none }
def serveGoodRow : OpenClaim := { program := "ytpoolpaagbeokaa", sum := "81fb7672c95f64c47e85806a202671aee3fb13451bc6e3d0037f817e21e902a8", func := "fellwalker/fellkeep.ServeGood", spec := "serveGood", unfollowed := true, recurses := true, apart := false }
def ServeGoodSaid : Prop := serveGoodRow.holds Try.pinned (OpenSpec.ofChange serveGoodSpec)

/-- ITS FALSE NEIGHBOUR: 'it returns false'. Refute it at one input. -/
def serveGoodWrong : ChangeSpec := { name := "serveGood", fn := fun _ => fun
  | [d1, d2, d3, d4, d5] => { results := [.lit (.bool false)], args := [d1, d2, d3, d4, d5] }
  | _ => none }
def ServeGoodWrongFalsely : Prop := serveGoodRow.holds Try.pinned (OpenSpec.ofChange serveGoodWrong)

/- THE SECOND FORM. 'bulk': how many values and letters a reading holds, each counted each time it is reached (what is shared counts as often as it is met; a slice's spare places count too). A statement '..UptoSaid' is the law's where the arguments, and the package variables that the reading takes, are together of bulk at most 1048576: NARROWER than '..Said'. Prove '..Said' where nothing that the law and all that it calls make is longer than what came in: it says more and counts as full. Else prove '..UptoSaid'. A law counts once. -/
mutual
def uptoBulk {H : Type} : DataW H → Nat
  | .lit (.string bytes) => bytes.length + 1
  | .lit _ => 1
  | .nil => 1
  | .ptr d => uptoBulk d + 1
  | .slice elems spare => uptoBulkAll elems + uptoBulkAll spare + 1
  | .agg parts => uptoBulkAll parts + 1
  | .iface _ d => uptoBulk d + 1
  | .map entries => uptoBulkEntries entries + 1
  | .held _ => 1
def uptoBulkAll {H : Type} : List (DataW H) → Nat
  | [] => 0
  | d :: r => uptoBulk d + uptoBulkAll r
def uptoBulkEntries {H : Type} : List (Lit × DataW H) → Nat
  | [] => 0
  | x :: r => uptoBulkEntry x + uptoBulkEntries r
def uptoBulkEntry {H : Type} : Lit × DataW H → Nat
  | (.string bytes, d) => bytes.length + uptoBulk d + 1
  | (_, d) => uptoBulk d + 1
 end
def uptoSmall : (H : Type) → List (DataW H) → Bool := fun _ ds => decide (uptoBulkAll ds ≤ 1048576)
def OpenSpec.upto (s : _root_.Go.ChangeSpec) : _root_.Go.OpenSpec := { _root_.Go.OpenSpec.ofChange s with cond := some uptoSmall }

/-- 'fellkeep.ServeFrames', WHERE WHAT IT READS IS OF BULK AT MOST 1048576: true; the input reads as it did. -/
def serveFramesUptoRow : OpenClaim := { program := "ytpoolpaagbeokaa", sum := "81fb7672c95f64c47e85806a202671aee3fb13451bc6e3d0037f817e21e902a8", func := "fellwalker/fellkeep.ServeFrames", spec := "serveFrames", unfollowed := true, recurses := true, apart := false, narrowed := true }
def ServeFramesUptoSaid : Prop := serveFramesUptoRow.holds Try.pinned (OpenSpec.upto serveFramesSpec)

/-- 'fellkeep.ServeFair', WHERE WHAT IT READS IS OF BULK AT MOST 1048576: true; the input reads as it did. -/
def serveFairUptoRow : OpenClaim := { program := "ytpoolpaagbeokaa", sum := "81fb7672c95f64c47e85806a202671aee3fb13451bc6e3d0037f817e21e902a8", func := "fellwalker/fellkeep.ServeFair", spec := "serveFair", unfollowed := true, recurses := true, apart := false, narrowed := true }
def ServeFairUptoSaid : Prop := serveFairUptoRow.holds Try.pinned (OpenSpec.upto serveFairSpec)

/-- 'fellkeep.ServeEnds', WHERE WHAT IT READS IS OF BULK AT MOST 1048576: true; the input reads as it did. -/
def serveEndsUptoRow : OpenClaim := { program := "ytpoolpaagbeokaa", sum := "81fb7672c95f64c47e85806a202671aee3fb13451bc6e3d0037f817e21e902a8", func := "fellwalker/fellkeep.ServeEnds", spec := "serveEnds", unfollowed := true, recurses := true, apart := false, narrowed := true }
def ServeEndsUptoSaid : Prop := serveEndsUptoRow.holds Try.pinned (OpenSpec.upto serveEndsSpec)

/-- 'fellkeep.ServeStale', WHERE WHAT IT READS IS OF BULK AT MOST 1048576: true; the input reads as it did. -/
def serveStaleUptoRow : OpenClaim := { program := "ytpoolpaagbeokaa", sum := "81fb7672c95f64c47e85806a202671aee3fb13451bc6e3d0037f817e21e902a8", func := "fellwalker/fellkeep.ServeStale", spec := "serveStale", unfollowed := true, recurses := true, apart := false, narrowed := true }
def ServeStaleUptoSaid : Prop := serveStaleUptoRow.holds Try.pinned (OpenSpec.upto serveStaleSpec)

/-- 'fellkeep.ServeOwn', WHERE WHAT IT READS IS OF BULK AT MOST 1048576: true; the input reads as it did. -/
def serveOwnUptoRow : OpenClaim := { program := "ytpoolpaagbeokaa", sum := "81fb7672c95f64c47e85806a202671aee3fb13451bc6e3d0037f817e21e902a8", func := "fellwalker/fellkeep.ServeOwn", spec := "serveOwn", unfollowed := true, recurses := true, apart := false, narrowed := true }
def ServeOwnUptoSaid : Prop := serveOwnUptoRow.holds Try.pinned (OpenSpec.upto serveOwnSpec)

/-- 'fellkeep.ServeGood', WHERE WHAT IT READS IS OF BULK AT MOST 1048576: true; the input reads as it did. -/
def serveGoodUptoRow : OpenClaim := { program := "ytpoolpaagbeokaa", sum := "81fb7672c95f64c47e85806a202671aee3fb13451bc6e3d0037f817e21e902a8", func := "fellwalker/fellkeep.ServeGood", spec := "serveGood", unfollowed := true, recurses := true, apart := false, narrowed := true }
def ServeGoodUptoSaid : Prop := serveGoodUptoRow.holds Try.pinned (OpenSpec.upto serveGoodSpec)

end Rows
end Go.Proofs.Ytpoolpaagbeokaa
