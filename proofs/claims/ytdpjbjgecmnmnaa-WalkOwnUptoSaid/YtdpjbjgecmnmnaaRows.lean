/-
  No cell of these rows narrows 'for every input' (looked for: loops, veiled, ifaces, maps, wideKeys, modest, calm, conditions, laid).
  DERIVED. THE GIVEN ROWS OF THIS SEAT. 12 by the template 'for every input the law returns true; each argument reads behind the call as it read before'; 0 by the template 'total and deterministic' (their statements: YtdpjbjgecmnmnaaTotals.lean).
  GIVEN WITH THE SEED: the statements are not yours to turn. If you find one false, say at which input.
  Laid BY PROGRAM, IN A SANDBOX (cutbox-rows.mjs): the forced cells as the released guide's own fill.sh prints them over the translation a63dfdf33a289cef… (all of the seat's roots in one cut). By AI agents, Wed Nov 11 2026. No macro, syntax, notation, axiom, sorry.
-/
import Derived.Test.YtdpjbjgecmnmnaaChecked
import GoSem.Claim
import GoSem.ClaimJoined
import GoSem.ClaimMapViews
import Derived.JoinedTies
import Derived.KernelRfl
namespace Go.Proofs.Ytdpjbjgecmnmnaa
/- THE CELL 'sum', in the pinned program and in every row, IS THE sha256 OF THE DUMP (.gsa) THAT YtdpjbjgecmnmnaaProg.lean LOADS. Nothing in Lean hashes anything: it is a label: what it is worth is what the hold of that sum in a sandbox is worth. -/
noncomputable def Try.pinned : Pinned := { name := "ytdpjbjgecmnmnaa", sum := "a63dfdf33a289cef05c7e95b9774ce13bfbfcf146b0ba2930f501f225075e238", checked := Try.checked }
namespace Rows
def none {H : Type} : Left H := { results := [], args := [] }

/-- 'fellkeep.HeurGreatest': WHATEVER THE INPUT: true; the input reads as it did. -/
def heurGreatestSpec : ChangeSpec := { name := "heurGreatest", fn := fun _ => fun
  | [d1, d2, d3, d4] => { results := [.lit (.bool true)], args := [d1, d2, d3, d4] }
  | _ => none }
def heurGreatestRow : OpenClaim := { program := "ytdpjbjgecmnmnaa", sum := "a63dfdf33a289cef05c7e95b9774ce13bfbfcf146b0ba2930f501f225075e238", func := "fellwalker/fellkeep.HeurGreatest", spec := "heurGreatest", unfollowed := true, recurses := true, apart := false }
def HeurGreatestSaid : Prop := heurGreatestRow.holds Try.pinned (OpenSpec.ofChange heurGreatestSpec)

/-- ITS FALSE NEIGHBOUR: 'it returns false'. Refute it at one input. -/
def heurGreatestWrong : ChangeSpec := { name := "heurGreatest", fn := fun _ => fun
  | [d1, d2, d3, d4] => { results := [.lit (.bool false)], args := [d1, d2, d3, d4] }
  | _ => none }
def HeurGreatestWrongFalsely : Prop := heurGreatestRow.holds Try.pinned (OpenSpec.ofChange heurGreatestWrong)

/-- 'fellkeep.HeurLess': WHATEVER THE INPUT: true; the input reads as it did. -/
def heurLessSpec : ChangeSpec := { name := "heurLess", fn := fun _ => fun
  | [d1, d2, d3] => { results := [.lit (.bool true)], args := [d1, d2, d3] }
  | _ => none }
def heurLessRow : OpenClaim := { program := "ytdpjbjgecmnmnaa", sum := "a63dfdf33a289cef05c7e95b9774ce13bfbfcf146b0ba2930f501f225075e238", func := "fellwalker/fellkeep.HeurLess", spec := "heurLess", unfollowed := true, recurses := true, apart := false }
def HeurLessSaid : Prop := heurLessRow.holds Try.pinned (OpenSpec.ofChange heurLessSpec)

/-- ITS FALSE NEIGHBOUR: 'it returns false'. Refute it at one input. -/
def heurLessWrong : ChangeSpec := { name := "heurLess", fn := fun _ => fun
  | [d1, d2, d3] => { results := [.lit (.bool false)], args := [d1, d2, d3] }
  | _ => none }
def HeurLessWrongFalsely : Prop := heurLessRow.holds Try.pinned (OpenSpec.ofChange heurLessWrong)

/-- 'fellkeep.HeurMore': WHATEVER THE INPUT: true; the input reads as it did. -/
def heurMoreSpec : ChangeSpec := { name := "heurMore", fn := fun _ => fun
  | [d1, d2, d3, d4] => { results := [.lit (.bool true)], args := [d1, d2, d3, d4] }
  | _ => none }
def heurMoreRow : OpenClaim := { program := "ytdpjbjgecmnmnaa", sum := "a63dfdf33a289cef05c7e95b9774ce13bfbfcf146b0ba2930f501f225075e238", func := "fellwalker/fellkeep.HeurMore", spec := "heurMore", unfollowed := true, recurses := true, apart := false }
def HeurMoreSaid : Prop := heurMoreRow.holds Try.pinned (OpenSpec.ofChange heurMoreSpec)

/-- ITS FALSE NEIGHBOUR: 'it returns false'. Refute it at one input. -/
def heurMoreWrong : ChangeSpec := { name := "heurMore", fn := fun _ => fun
  | [d1, d2, d3, d4] => { results := [.lit (.bool false)], args := [d1, d2, d3, d4] }
  | _ => none }
def HeurMoreWrongFalsely : Prop := heurMoreRow.holds Try.pinned (OpenSpec.ofChange heurMoreWrong)

/-- 'fellkeep.DijkWalks': WHATEVER THE INPUT: true; the input reads as it did. -/
def dijkWalksSpec : ChangeSpec := { name := "dijkWalks", fn := fun _ => fun
  | [d1, d2, d3] => { results := [.lit (.bool true)], args := [d1, d2, d3] }
  | _ => none }
def dijkWalksRow : OpenClaim := { program := "ytdpjbjgecmnmnaa", sum := "a63dfdf33a289cef05c7e95b9774ce13bfbfcf146b0ba2930f501f225075e238", func := "fellwalker/fellkeep.DijkWalks", spec := "dijkWalks", unfollowed := true, recurses := true, apart := false }
def DijkWalksSaid : Prop := dijkWalksRow.holds Try.pinned (OpenSpec.ofChange dijkWalksSpec)

/-- ITS FALSE NEIGHBOUR: 'it returns false'. Refute it at one input. -/
def dijkWalksWrong : ChangeSpec := { name := "dijkWalks", fn := fun _ => fun
  | [d1, d2, d3] => { results := [.lit (.bool false)], args := [d1, d2, d3] }
  | _ => none }
def DijkWalksWrongFalsely : Prop := dijkWalksRow.holds Try.pinned (OpenSpec.ofChange dijkWalksWrong)

/-- 'fellkeep.WalkLess': WHATEVER THE INPUT: true; the input reads as it did. -/
def walkLessSpec : ChangeSpec := { name := "walkLess", fn := fun _ => fun
  | [d1, d2] => { results := [.lit (.bool true)], args := [d1, d2] }
  | _ => none }
def walkLessRow : OpenClaim := { program := "ytdpjbjgecmnmnaa", sum := "a63dfdf33a289cef05c7e95b9774ce13bfbfcf146b0ba2930f501f225075e238", func := "fellwalker/fellkeep.WalkLess", spec := "walkLess", apart := false }
def WalkLessSaid : Prop := walkLessRow.holds Try.pinned (OpenSpec.ofChange walkLessSpec)

/-- ITS FALSE NEIGHBOUR: 'it returns false'. Refute it at one input. -/
def walkLessWrong : ChangeSpec := { name := "walkLess", fn := fun _ => fun
  | [d1, d2] => { results := [.lit (.bool false)], args := [d1, d2] }
  | _ => none }
def WalkLessWrongFalsely : Prop := walkLessRow.holds Try.pinned (OpenSpec.ofChange walkLessWrong)

/-- 'fellkeep.WalkOwn': WHATEVER THE INPUT: true; the input reads as it did. -/
def walkOwnSpec : ChangeSpec := { name := "walkOwn", fn := fun _ => fun
  | [d1, d2] => { results := [.lit (.bool true)], args := [d1, d2] }
  | _ => none }
def walkOwnRow : OpenClaim := { program := "ytdpjbjgecmnmnaa", sum := "a63dfdf33a289cef05c7e95b9774ce13bfbfcf146b0ba2930f501f225075e238", func := "fellwalker/fellkeep.WalkOwn", spec := "walkOwn", apart := false }
def WalkOwnSaid : Prop := walkOwnRow.holds Try.pinned (OpenSpec.ofChange walkOwnSpec)

/-- ITS FALSE NEIGHBOUR: 'it returns false'. Refute it at one input. -/
def walkOwnWrong : ChangeSpec := { name := "walkOwn", fn := fun _ => fun
  | [d1, d2] => { results := [.lit (.bool false)], args := [d1, d2] }
  | _ => none }
def WalkOwnWrongFalsely : Prop := walkOwnRow.holds Try.pinned (OpenSpec.ofChange walkOwnWrong)

/-- 'fellkeep.JohnSame': WHATEVER THE INPUT: true; the input reads as it did. -/
def johnSameSpec : ChangeSpec := { name := "johnSame", fn := fun _ => fun
  | [d1, d2] => { results := [.lit (.bool true)], args := [d1, d2] }
  | _ => none }
def johnSameRow : OpenClaim := { program := "ytdpjbjgecmnmnaa", sum := "a63dfdf33a289cef05c7e95b9774ce13bfbfcf146b0ba2930f501f225075e238", func := "fellwalker/fellkeep.JohnSame", spec := "johnSame", unfollowed := true, recurses := true, apart := false }
def JohnSameSaid : Prop := johnSameRow.holds Try.pinned (OpenSpec.ofChange johnSameSpec)

/-- ITS FALSE NEIGHBOUR: 'it returns false'. Refute it at one input. -/
def johnSameWrong : ChangeSpec := { name := "johnSame", fn := fun _ => fun
  | [d1, d2] => { results := [.lit (.bool false)], args := [d1, d2] }
  | _ => none }
def JohnSameWrongFalsely : Prop := johnSameRow.holds Try.pinned (OpenSpec.ofChange johnSameWrong)

/-- 'fellkeep.DagForward': WHATEVER THE INPUT: true; the input reads as it did. -/
def dagForwardSpec : ChangeSpec := { name := "dagForward", fn := fun _ => fun
  | [d] => { results := [.lit (.bool true)], args := [d] }
  | _ => none }
def dagForwardRow : OpenClaim := { program := "ytdpjbjgecmnmnaa", sum := "a63dfdf33a289cef05c7e95b9774ce13bfbfcf146b0ba2930f501f225075e238", func := "fellwalker/fellkeep.DagForward", spec := "dagForward", unfollowed := true, recurses := true, apart := false }
def DagForwardSaid : Prop := dagForwardRow.holds Try.pinned (OpenSpec.ofChange dagForwardSpec)

/-- ITS FALSE NEIGHBOUR: 'it returns false'. Refute it at one input. -/
def dagForwardWrong : ChangeSpec := { name := "dagForward", fn := fun _ => fun
  | [d] => { results := [.lit (.bool false)], args := [d] }
  | _ => none }
def DagForwardWrongFalsely : Prop := dagForwardRow.holds Try.pinned (OpenSpec.ofChange dagForwardWrong)

/-- 'fellkeep.DagTight': WHATEVER THE INPUT: true; the input reads as it did. -/
def dagTightSpec : ChangeSpec := { name := "dagTight", fn := fun _ => fun
  | [d] => { results := [.lit (.bool true)], args := [d] }
  | _ => none }
def dagTightRow : OpenClaim := { program := "ytdpjbjgecmnmnaa", sum := "a63dfdf33a289cef05c7e95b9774ce13bfbfcf146b0ba2930f501f225075e238", func := "fellwalker/fellkeep.DagTight", spec := "dagTight", unfollowed := true, recurses := true, apart := false }
def DagTightSaid : Prop := dagTightRow.holds Try.pinned (OpenSpec.ofChange dagTightSpec)

/-- ITS FALSE NEIGHBOUR: 'it returns false'. Refute it at one input. -/
def dagTightWrong : ChangeSpec := { name := "dagTight", fn := fun _ => fun
  | [d] => { results := [.lit (.bool false)], args := [d] }
  | _ => none }
def DagTightWrongFalsely : Prop := dagTightRow.holds Try.pinned (OpenSpec.ofChange dagTightWrong)

/-- 'fellkeep.SpanJoins': WHATEVER THE INPUT: true; the input reads as it did. -/
def spanJoinsSpec : ChangeSpec := { name := "spanJoins", fn := fun _ => fun
  | [d] => { results := [.lit (.bool true)], args := [d] }
  | _ => none }
def spanJoinsRow : OpenClaim := { program := "ytdpjbjgecmnmnaa", sum := "a63dfdf33a289cef05c7e95b9774ce13bfbfcf146b0ba2930f501f225075e238", func := "fellwalker/fellkeep.SpanJoins", spec := "spanJoins", unfollowed := true, recurses := true, apart := false }
def SpanJoinsSaid : Prop := spanJoinsRow.holds Try.pinned (OpenSpec.ofChange spanJoinsSpec)

/-- ITS FALSE NEIGHBOUR: 'it returns false'. Refute it at one input. -/
def spanJoinsWrong : ChangeSpec := { name := "spanJoins", fn := fun _ => fun
  | [d] => { results := [.lit (.bool false)], args := [d] }
  | _ => none }
def SpanJoinsWrongFalsely : Prop := spanJoinsRow.holds Try.pinned (OpenSpec.ofChange spanJoinsWrong)

/-- 'fellkeep.SpanLeast': WHATEVER THE INPUT: true; the input reads as it did. -/
def spanLeastSpec : ChangeSpec := { name := "spanLeast", fn := fun _ => fun
  | [d1, d2] => { results := [.lit (.bool true)], args := [d1, d2] }
  | _ => none }
def spanLeastRow : OpenClaim := { program := "ytdpjbjgecmnmnaa", sum := "a63dfdf33a289cef05c7e95b9774ce13bfbfcf146b0ba2930f501f225075e238", func := "fellwalker/fellkeep.SpanLeast", spec := "spanLeast", unfollowed := true, recurses := true, apart := false }
def SpanLeastSaid : Prop := spanLeastRow.holds Try.pinned (OpenSpec.ofChange spanLeastSpec)

/-- ITS FALSE NEIGHBOUR: 'it returns false'. Refute it at one input. -/
def spanLeastWrong : ChangeSpec := { name := "spanLeast", fn := fun _ => fun
  | [d1, d2] => { results := [.lit (.bool false)], args := [d1, d2] }
  | _ => none }
def SpanLeastWrongFalsely : Prop := spanLeastRow.holds Try.pinned (OpenSpec.ofChange spanLeastWrong)

/-- 'fellkeep.SpanNeck': WHATEVER THE INPUT: true; the input reads as it did. -/
def spanNeckSpec : ChangeSpec := { name := "spanNeck", fn := fun _ => fun
  | [d1, d2, d3] => { results := [.lit (.bool true)], args := [d1, d2, d3] }
  | _ => none }
def spanNeckRow : OpenClaim := { program := "ytdpjbjgecmnmnaa", sum := "a63dfdf33a289cef05c7e95b9774ce13bfbfcf146b0ba2930f501f225075e238", func := "fellwalker/fellkeep.SpanNeck", spec := "spanNeck", unfollowed := true, recurses := true, apart := false }
def SpanNeckSaid : Prop := spanNeckRow.holds Try.pinned (OpenSpec.ofChange spanNeckSpec)

/-- ITS FALSE NEIGHBOUR: 'it returns false'. Refute it at one input. -/
def spanNeckWrong : ChangeSpec := { name := "spanNeck", fn := fun _ => fun
  | [d1, d2, d3] => { results := [.lit (.bool false)], args := [d1, d2, d3] }
  | _ => none }
def SpanNeckWrongFalsely : Prop := spanNeckRow.holds Try.pinned (OpenSpec.ofChange spanNeckWrong)

/- THE SECOND FORM. 'bulk': how many values and letters a reading holds, each counted each time it is reached (what is shared counts as often as it is met; a slice's spare places count too). A statement '..UptoSaid' is the law's where the arguments, and the package variables that the reading takes, are together of bulk at most 1048576: NARROWER than '..Said'. Prove '..Said' where nothing that the law and all that it calls make is longer than what came in: it says more and counts as full. Else prove '..UptoSaid'. A law counts once. -/
mutual
def uptoBulk {H : Type} : DataW H → Nat
  | .lit (.string bytes) => bytes.length + 1
  | .lit _ => 1
  | .nil => 1
  | .ptr d => uptoBulk d + 1
  | .slice elems spare => uptoBulkAll elems + uptoBulkAll spare + 1
  | .agg parts => uptoBulkAll parts + 1
  | .iface _ d => uptoBulk d + 1
  | .map entries => uptoBulkEntries entries + 1
  | .held _ => 1
def uptoBulkAll {H : Type} : List (DataW H) → Nat
  | [] => 0
  | d :: r => uptoBulk d + uptoBulkAll r
def uptoBulkEntries {H : Type} : List (Lit × DataW H) → Nat
  | [] => 0
  | x :: r => uptoBulkEntry x + uptoBulkEntries r
def uptoBulkEntry {H : Type} : Lit × DataW H → Nat
  | (.string bytes, d) => bytes.length + uptoBulk d + 1
  | (_, d) => uptoBulk d + 1
 end
def uptoSmall : (H : Type) → List (DataW H) → Bool := fun _ ds => decide (uptoBulkAll ds ≤ 1048576)
def OpenSpec.upto (s : _root_.Go.ChangeSpec) : _root_.Go.OpenSpec := { _root_.Go.OpenSpec.ofChange s with cond := some uptoSmall }

/-- 'fellkeep.HeurGreatest', WHERE WHAT IT READS IS OF BULK AT MOST 1048576: true; the input reads as it did. -/
def heurGreatestUptoRow : OpenClaim := { program := "ytdpjbjgecmnmnaa", sum := "a63dfdf33a289cef05c7e95b9774ce13bfbfcf146b0ba2930f501f225075e238", func := "fellwalker/fellkeep.HeurGreatest", spec := "heurGreatest", unfollowed := true, recurses := true, apart := false, narrowed := true }
def HeurGreatestUptoSaid : Prop := heurGreatestUptoRow.holds Try.pinned (OpenSpec.upto heurGreatestSpec)

/-- 'fellkeep.HeurLess', WHERE WHAT IT READS IS OF BULK AT MOST 1048576: true; the input reads as it did. -/
def heurLessUptoRow : OpenClaim := { program := "ytdpjbjgecmnmnaa", sum := "a63dfdf33a289cef05c7e95b9774ce13bfbfcf146b0ba2930f501f225075e238", func := "fellwalker/fellkeep.HeurLess", spec := "heurLess", unfollowed := true, recurses := true, apart := false, narrowed := true }
def HeurLessUptoSaid : Prop := heurLessUptoRow.holds Try.pinned (OpenSpec.upto heurLessSpec)

/-- 'fellkeep.HeurMore', WHERE WHAT IT READS IS OF BULK AT MOST 1048576: true; the input reads as it did. -/
def heurMoreUptoRow : OpenClaim := { program := "ytdpjbjgecmnmnaa", sum := "a63dfdf33a289cef05c7e95b9774ce13bfbfcf146b0ba2930f501f225075e238", func := "fellwalker/fellkeep.HeurMore", spec := "heurMore", unfollowed := true, recurses := true, apart := false, narrowed := true }
def HeurMoreUptoSaid : Prop := heurMoreUptoRow.holds Try.pinned (OpenSpec.upto heurMoreSpec)

/-- 'fellkeep.DijkWalks', WHERE WHAT IT READS IS OF BULK AT MOST 1048576: true; the input reads as it did. -/
def dijkWalksUptoRow : OpenClaim := { program := "ytdpjbjgecmnmnaa", sum := "a63dfdf33a289cef05c7e95b9774ce13bfbfcf146b0ba2930f501f225075e238", func := "fellwalker/fellkeep.DijkWalks", spec := "dijkWalks", unfollowed := true, recurses := true, apart := false, narrowed := true }
def DijkWalksUptoSaid : Prop := dijkWalksUptoRow.holds Try.pinned (OpenSpec.upto dijkWalksSpec)

/-- 'fellkeep.WalkLess', WHERE WHAT IT READS IS OF BULK AT MOST 1048576: true; the input reads as it did. -/
def walkLessUptoRow : OpenClaim := { program := "ytdpjbjgecmnmnaa", sum := "a63dfdf33a289cef05c7e95b9774ce13bfbfcf146b0ba2930f501f225075e238", func := "fellwalker/fellkeep.WalkLess", spec := "walkLess", apart := false, narrowed := true }
def WalkLessUptoSaid : Prop := walkLessUptoRow.holds Try.pinned (OpenSpec.upto walkLessSpec)

/-- 'fellkeep.WalkOwn', WHERE WHAT IT READS IS OF BULK AT MOST 1048576: true; the input reads as it did. -/
def walkOwnUptoRow : OpenClaim := { program := "ytdpjbjgecmnmnaa", sum := "a63dfdf33a289cef05c7e95b9774ce13bfbfcf146b0ba2930f501f225075e238", func := "fellwalker/fellkeep.WalkOwn", spec := "walkOwn", apart := false, narrowed := true }
def WalkOwnUptoSaid : Prop := walkOwnUptoRow.holds Try.pinned (OpenSpec.upto walkOwnSpec)

/-- 'fellkeep.JohnSame', WHERE WHAT IT READS IS OF BULK AT MOST 1048576: true; the input reads as it did. -/
def johnSameUptoRow : OpenClaim := { program := "ytdpjbjgecmnmnaa", sum := "a63dfdf33a289cef05c7e95b9774ce13bfbfcf146b0ba2930f501f225075e238", func := "fellwalker/fellkeep.JohnSame", spec := "johnSame", unfollowed := true, recurses := true, apart := false, narrowed := true }
def JohnSameUptoSaid : Prop := johnSameUptoRow.holds Try.pinned (OpenSpec.upto johnSameSpec)

/-- 'fellkeep.DagForward', WHERE WHAT IT READS IS OF BULK AT MOST 1048576: true; the input reads as it did. -/
def dagForwardUptoRow : OpenClaim := { program := "ytdpjbjgecmnmnaa", sum := "a63dfdf33a289cef05c7e95b9774ce13bfbfcf146b0ba2930f501f225075e238", func := "fellwalker/fellkeep.DagForward", spec := "dagForward", unfollowed := true, recurses := true, apart := false, narrowed := true }
def DagForwardUptoSaid : Prop := dagForwardUptoRow.holds Try.pinned (OpenSpec.upto dagForwardSpec)

/-- 'fellkeep.DagTight', WHERE WHAT IT READS IS OF BULK AT MOST 1048576: true; the input reads as it did. -/
def dagTightUptoRow : OpenClaim := { program := "ytdpjbjgecmnmnaa", sum := "a63dfdf33a289cef05c7e95b9774ce13bfbfcf146b0ba2930f501f225075e238", func := "fellwalker/fellkeep.DagTight", spec := "dagTight", unfollowed := true, recurses := true, apart := false, narrowed := true }
def DagTightUptoSaid : Prop := dagTightUptoRow.holds Try.pinned (OpenSpec.upto dagTightSpec)

/-- 'fellkeep.SpanJoins', WHERE WHAT IT READS IS OF BULK AT MOST 1048576: true; the input reads as it did. -/
def spanJoinsUptoRow : OpenClaim := { program := "ytdpjbjgecmnmnaa", sum := "a63dfdf33a289cef05c7e95b9774ce13bfbfcf146b0ba2930f501f225075e238", func := "fellwalker/fellkeep.SpanJoins", spec := "spanJoins", unfollowed := true, recurses := true, apart := false, narrowed := true }
def SpanJoinsUptoSaid : Prop := spanJoinsUptoRow.holds Try.pinned (OpenSpec.upto spanJoinsSpec)

/-- 'fellkeep.SpanLeast', WHERE WHAT IT READS IS OF BULK AT MOST 1048576: true; the input reads as it did. -/
def spanLeastUptoRow : OpenClaim := { program := "ytdpjbjgecmnmnaa", sum := "a63dfdf33a289cef05c7e95b9774ce13bfbfcf146b0ba2930f501f225075e238", func := "fellwalker/fellkeep.SpanLeast", spec := "spanLeast", unfollowed := true, recurses := true, apart := false, narrowed := true }
def SpanLeastUptoSaid : Prop := spanLeastUptoRow.holds Try.pinned (OpenSpec.upto spanLeastSpec)

/-- 'fellkeep.SpanNeck', WHERE WHAT IT READS IS OF BULK AT MOST 1048576: true; the input reads as it did. -/
def spanNeckUptoRow : OpenClaim := { program := "ytdpjbjgecmnmnaa", sum := "a63dfdf33a289cef05c7e95b9774ce13bfbfcf146b0ba2930f501f225075e238", func := "fellwalker/fellkeep.SpanNeck", spec := "spanNeck", unfollowed := true, recurses := true, apart := false, narrowed := true }
def SpanNeckUptoSaid : Prop := spanNeckUptoRow.holds Try.pinned (OpenSpec.upto spanNeckSpec)

end Rows
end Go.Proofs.Ytdpjbjgecmnmnaa
