/-
  No cell of these rows narrows 'for every input' (looked for: loops, veiled, ifaces, maps, wideKeys, modest, calm, conditions, laid).
  DERIVED. THE GIVEN ROWS OF THIS SEAT. 12 by the template 'for every input the law returns true; each argument reads behind the call as it read before'; 0 by the template 'total and deterministic' (their statements: YtjhnlkmdkjlkdaaTotals.lean).
  GIVEN WITH THE SEED: the statements are not yours to turn. If you find one false, say at which input.
  Laid BY PROGRAM, IN A SANDBOX (cutbox-rows.mjs): the forced cells as the released guide's own fill.sh prints them over the translation fd914903b65348e0… (all of the seat's roots in one cut). By AI agents, Wed Nov 11 2026. No macro, syntax, notation, axiom, sorry.
-/
import Derived.Test.YtjhnlkmdkjlkdaaChecked
import GoSem.Claim
import GoSem.ClaimJoined
import GoSem.ClaimMapViews
import Derived.JoinedTies
import Derived.KernelRfl
namespace Go.Proofs.Ytjhnlkmdkjlkdaa
/- THE CELL 'sum', in the pinned program and in every row, IS THE sha256 OF THE DUMP (.gsa) THAT YtjhnlkmdkjlkdaaProg.lean LOADS. Nothing in Lean hashes anything: it is a label: what it is worth is what the hold of that sum in a sandbox is worth. -/
noncomputable def Try.pinned : Pinned := { name := "ytjhnlkmdkjlkdaa", sum := "fd914903b65348e00f7d81c3a11268485cdff35368c636bdc6aaa901a8d84cbc", checked := Try.checked }
namespace Rows
def none {H : Type} : Left H := { results := [], args := [] }

/-- 'fellkeep.CompLeads': WHATEVER THE INPUT: true; the input reads as it did. -/
def compLeadsSpec : ChangeSpec := { name := "compLeads", fn := fun _ => fun
  | [d1, d2, d3] => { results := [.lit (.bool true)], args := [d1, d2, d3] }
  | _ => none }
def compLeadsRow : OpenClaim := { program := "ytjhnlkmdkjlkdaa", sum := "fd914903b65348e00f7d81c3a11268485cdff35368c636bdc6aaa901a8d84cbc", func := "fellwalker/fellkeep.CompLeads", spec := "compLeads", unfollowed := true, recurses := true, apart := false }
def CompLeadsSaid : Prop := compLeadsRow.holds Try.pinned (OpenSpec.ofChange compLeadsSpec)

/-- ITS FALSE NEIGHBOUR: 'it returns false'. Refute it at one input. -/
def compLeadsWrong : ChangeSpec := { name := "compLeads", fn := fun _ => fun
  | [d1, d2, d3] => { results := [.lit (.bool false)], args := [d1, d2, d3] }
  | _ => none }
def CompLeadsWrongFalsely : Prop := compLeadsRow.holds Try.pinned (OpenSpec.ofChange compLeadsWrong)

/-- 'fellkeep.CompOrder': WHATEVER THE INPUT: true; the input reads as it did. -/
def compOrderSpec : ChangeSpec := { name := "compOrder", fn := fun _ => fun
  | [d] => { results := [.lit (.bool true)], args := [d] }
  | _ => none }
def compOrderRow : OpenClaim := { program := "ytjhnlkmdkjlkdaa", sum := "fd914903b65348e00f7d81c3a11268485cdff35368c636bdc6aaa901a8d84cbc", func := "fellwalker/fellkeep.CompOrder", spec := "compOrder", unfollowed := true, recurses := true, apart := false }
def CompOrderSaid : Prop := compOrderRow.holds Try.pinned (OpenSpec.ofChange compOrderSpec)

/-- ITS FALSE NEIGHBOUR: 'it returns false'. Refute it at one input. -/
def compOrderWrong : ChangeSpec := { name := "compOrder", fn := fun _ => fun
  | [d] => { results := [.lit (.bool false)], args := [d] }
  | _ => none }
def CompOrderWrongFalsely : Prop := compOrderRow.holds Try.pinned (OpenSpec.ofChange compOrderWrong)

/-- 'fellkeep.DagKnots': WHATEVER THE INPUT: true; the input reads as it did. -/
def dagKnotsSpec : ChangeSpec := { name := "dagKnots", fn := fun _ => fun
  | [d] => { results := [.lit (.bool true)], args := [d] }
  | _ => none }
def dagKnotsRow : OpenClaim := { program := "ytjhnlkmdkjlkdaa", sum := "fd914903b65348e00f7d81c3a11268485cdff35368c636bdc6aaa901a8d84cbc", func := "fellwalker/fellkeep.DagKnots", spec := "dagKnots", unfollowed := true, recurses := true, apart := false }
def DagKnotsSaid : Prop := dagKnotsRow.holds Try.pinned (OpenSpec.ofChange dagKnotsSpec)

/-- ITS FALSE NEIGHBOUR: 'it returns false'. Refute it at one input. -/
def dagKnotsWrong : ChangeSpec := { name := "dagKnots", fn := fun _ => fun
  | [d] => { results := [.lit (.bool false)], args := [d] }
  | _ => none }
def DagKnotsWrongFalsely : Prop := dagKnotsRow.holds Try.pinned (OpenSpec.ofChange dagKnotsWrong)

/-- 'felltop.TopKnots': WHATEVER THE INPUT: true; the input reads as it did. -/
def topKnotsSpec : ChangeSpec := { name := "topKnots", fn := fun _ => fun
  | [d] => { results := [.lit (.bool true)], args := [d] }
  | _ => none }
def topKnotsRow : OpenClaim := { program := "ytjhnlkmdkjlkdaa", sum := "fd914903b65348e00f7d81c3a11268485cdff35368c636bdc6aaa901a8d84cbc", func := "fellwalker/felltop.TopKnots", spec := "topKnots", unfollowed := true, recurses := true, apart := false }
def TopKnotsSaid : Prop := topKnotsRow.holds Try.pinned (OpenSpec.ofChange topKnotsSpec)

/-- ITS FALSE NEIGHBOUR: 'it returns false'. Refute it at one input. -/
def topKnotsWrong : ChangeSpec := { name := "topKnots", fn := fun _ => fun
  | [d] => { results := [.lit (.bool false)], args := [d] }
  | _ => none }
def TopKnotsWrongFalsely : Prop := topKnotsRow.holds Try.pinned (OpenSpec.ofChange topKnotsWrong)

/-- 'fellkeep.TwinTurns': WHATEVER THE INPUT: true; the input reads as it did. -/
def twinTurnsSpec : ChangeSpec := { name := "twinTurns", fn := fun _ => fun
  | [d1, d2, d3] => { results := [.lit (.bool true)], args := [d1, d2, d3] }
  | _ => none }
def twinTurnsRow : OpenClaim := { program := "ytjhnlkmdkjlkdaa", sum := "fd914903b65348e00f7d81c3a11268485cdff35368c636bdc6aaa901a8d84cbc", func := "fellwalker/fellkeep.TwinTurns", spec := "twinTurns", apart := false }
def TwinTurnsSaid : Prop := twinTurnsRow.holds Try.pinned (OpenSpec.ofChange twinTurnsSpec)

/-- ITS FALSE NEIGHBOUR: 'it returns false'. Refute it at one input. -/
def twinTurnsWrong : ChangeSpec := { name := "twinTurns", fn := fun _ => fun
  | [d1, d2, d3] => { results := [.lit (.bool false)], args := [d1, d2, d3] }
  | _ => none }
def TwinTurnsWrongFalsely : Prop := twinTurnsRow.holds Try.pinned (OpenSpec.ofChange twinTurnsWrong)

/-- 'fellkeep.TwinFlow': WHATEVER THE INPUT: true; the input reads as it did. -/
def twinFlowSpec : ChangeSpec := { name := "twinFlow", fn := fun _ => fun
  | [d1, d2, d3] => { results := [.lit (.bool true)], args := [d1, d2, d3] }
  | _ => none }
def twinFlowRow : OpenClaim := { program := "ytjhnlkmdkjlkdaa", sum := "fd914903b65348e00f7d81c3a11268485cdff35368c636bdc6aaa901a8d84cbc", func := "fellwalker/fellkeep.TwinFlow", spec := "twinFlow", apart := false }
def TwinFlowSaid : Prop := twinFlowRow.holds Try.pinned (OpenSpec.ofChange twinFlowSpec)

/-- ITS FALSE NEIGHBOUR: 'it returns false'. Refute it at one input. -/
def twinFlowWrong : ChangeSpec := { name := "twinFlow", fn := fun _ => fun
  | [d1, d2, d3] => { results := [.lit (.bool false)], args := [d1, d2, d3] }
  | _ => none }
def TwinFlowWrongFalsely : Prop := twinFlowRow.holds Try.pinned (OpenSpec.ofChange twinFlowWrong)

/-- 'fellkeep.LifeBack': WHATEVER THE INPUT: true; the input reads as it did. -/
def lifeBackSpec : ChangeSpec := { name := "lifeBack", fn := fun _ => fun
  | [d1, d2, d3, d4] => { results := [.lit (.bool true)], args := [d1, d2, d3, d4] }
  | _ => none }
def lifeBackRow : OpenClaim := { program := "ytjhnlkmdkjlkdaa", sum := "fd914903b65348e00f7d81c3a11268485cdff35368c636bdc6aaa901a8d84cbc", func := "fellwalker/fellkeep.LifeBack", spec := "lifeBack", unfollowed := true, recurses := true, apart := false }
def LifeBackSaid : Prop := lifeBackRow.holds Try.pinned (OpenSpec.ofChange lifeBackSpec)

/-- ITS FALSE NEIGHBOUR: 'it returns false'. Refute it at one input. -/
def lifeBackWrong : ChangeSpec := { name := "lifeBack", fn := fun _ => fun
  | [d1, d2, d3, d4] => { results := [.lit (.bool false)], args := [d1, d2, d3, d4] }
  | _ => none }
def LifeBackWrongFalsely : Prop := lifeBackRow.holds Try.pinned (OpenSpec.ofChange lifeBackWrong)

/-- 'fellkeep.LifeOwn': WHATEVER THE INPUT: true; the input reads as it did. -/
def lifeOwnSpec : ChangeSpec := { name := "lifeOwn", fn := fun _ => fun
  | [d1, d2, d3] => { results := [.lit (.bool true)], args := [d1, d2, d3] }
  | _ => none }
def lifeOwnRow : OpenClaim := { program := "ytjhnlkmdkjlkdaa", sum := "fd914903b65348e00f7d81c3a11268485cdff35368c636bdc6aaa901a8d84cbc", func := "fellwalker/fellkeep.LifeOwn", spec := "lifeOwn", unfollowed := true, recurses := true, apart := false }
def LifeOwnSaid : Prop := lifeOwnRow.holds Try.pinned (OpenSpec.ofChange lifeOwnSpec)

/-- ITS FALSE NEIGHBOUR: 'it returns false'. Refute it at one input. -/
def lifeOwnWrong : ChangeSpec := { name := "lifeOwn", fn := fun _ => fun
  | [d1, d2, d3] => { results := [.lit (.bool false)], args := [d1, d2, d3] }
  | _ => none }
def LifeOwnWrongFalsely : Prop := lifeOwnRow.holds Try.pinned (OpenSpec.ofChange lifeOwnWrong)

/-- 'fellkeep.LifeSame': WHATEVER THE INPUT: true; the input reads as it did. -/
def lifeSameSpec : ChangeSpec := { name := "lifeSame", fn := fun _ => fun
  | [d1, d2, d3, d4] => { results := [.lit (.bool true)], args := [d1, d2, d3, d4] }
  | _ => none }
def lifeSameRow : OpenClaim := { program := "ytjhnlkmdkjlkdaa", sum := "fd914903b65348e00f7d81c3a11268485cdff35368c636bdc6aaa901a8d84cbc", func := "fellwalker/fellkeep.LifeSame", spec := "lifeSame", unfollowed := true, recurses := true, apart := false }
def LifeSameSaid : Prop := lifeSameRow.holds Try.pinned (OpenSpec.ofChange lifeSameSpec)

/-- ITS FALSE NEIGHBOUR: 'it returns false'. Refute it at one input. -/
def lifeSameWrong : ChangeSpec := { name := "lifeSame", fn := fun _ => fun
  | [d1, d2, d3, d4] => { results := [.lit (.bool false)], args := [d1, d2, d3, d4] }
  | _ => none }
def LifeSameWrongFalsely : Prop := lifeSameRow.holds Try.pinned (OpenSpec.ofChange lifeSameWrong)

/-- 'felltop.TopMended': WHATEVER THE INPUT: true; the input reads as it did. -/
def topMendedSpec : ChangeSpec := { name := "topMended", fn := fun _ => fun
  | [d1, d2, d3, d4] => { results := [.lit (.bool true)], args := [d1, d2, d3, d4] }
  | _ => none }
def topMendedRow : OpenClaim := { program := "ytjhnlkmdkjlkdaa", sum := "fd914903b65348e00f7d81c3a11268485cdff35368c636bdc6aaa901a8d84cbc", func := "fellwalker/felltop.TopMended", spec := "topMended", unfollowed := true, recurses := true, apart := false }
def TopMendedSaid : Prop := topMendedRow.holds Try.pinned (OpenSpec.ofChange topMendedSpec)

/-- ITS FALSE NEIGHBOUR: 'it returns false'. Refute it at one input. -/
def topMendedWrong : ChangeSpec := { name := "topMended", fn := fun _ => fun
  | [d1, d2, d3, d4] => { results := [.lit (.bool false)], args := [d1, d2, d3, d4] }
  | _ => none }
def TopMendedWrongFalsely : Prop := topMendedRow.holds Try.pinned (OpenSpec.ofChange topMendedWrong)

/-- 'fellkeep.YenOrders': WHATEVER THE INPUT: true; the input reads as it did. -/
def yenOrdersSpec : ChangeSpec := { name := "yenOrders", fn := fun _ => fun
  | [d1, d2, d3, d4] => { results := [.lit (.bool true)], args := [d1, d2, d3, d4] }
  | _ => none }
def yenOrdersRow : OpenClaim := { program := "ytjhnlkmdkjlkdaa", sum := "fd914903b65348e00f7d81c3a11268485cdff35368c636bdc6aaa901a8d84cbc", func := "fellwalker/fellkeep.YenOrders", spec := "yenOrders", unfollowed := true, recurses := true, apart := false }
def YenOrdersSaid : Prop := yenOrdersRow.holds Try.pinned (OpenSpec.ofChange yenOrdersSpec)

/-- ITS FALSE NEIGHBOUR: 'it returns false'. Refute it at one input. -/
def yenOrdersWrong : ChangeSpec := { name := "yenOrders", fn := fun _ => fun
  | [d1, d2, d3, d4] => { results := [.lit (.bool false)], args := [d1, d2, d3, d4] }
  | _ => none }
def YenOrdersWrongFalsely : Prop := yenOrdersRow.holds Try.pinned (OpenSpec.ofChange yenOrdersWrong)

/-- 'fellkeep.YenMore': WHATEVER THE INPUT: true; the input reads as it did. -/
def yenMoreSpec : ChangeSpec := { name := "yenMore", fn := fun _ => fun
  | [d1, d2, d3, d4, d5] => { results := [.lit (.bool true)], args := [d1, d2, d3, d4, d5] }
  | _ => none }
def yenMoreRow : OpenClaim := { program := "ytjhnlkmdkjlkdaa", sum := "fd914903b65348e00f7d81c3a11268485cdff35368c636bdc6aaa901a8d84cbc", func := "fellwalker/fellkeep.YenMore", spec := "yenMore", unfollowed := true, recurses := true, apart := false }
def YenMoreSaid : Prop := yenMoreRow.holds Try.pinned (OpenSpec.ofChange yenMoreSpec)

/-- ITS FALSE NEIGHBOUR: 'it returns false'. Refute it at one input. -/
def yenMoreWrong : ChangeSpec := { name := "yenMore", fn := fun _ => fun
  | [d1, d2, d3, d4, d5] => { results := [.lit (.bool false)], args := [d1, d2, d3, d4, d5] }
  | _ => none }
def YenMoreWrongFalsely : Prop := yenMoreRow.holds Try.pinned (OpenSpec.ofChange yenMoreWrong)

/- THE SECOND FORM. 'bulk': how many values and letters a reading holds, each counted each time it is reached (what is shared counts as often as it is met; a slice's spare places count too). A statement '..UptoSaid' is the law's where the arguments, and the package variables that the reading takes, are together of bulk at most 1048576: NARROWER than '..Said'. Prove '..Said' where nothing that the law and all that it calls make is longer than what came in: it says more and counts as full. Else prove '..UptoSaid'. A law counts once. -/
mutual
def uptoBulk {H : Type} : DataW H → Nat
  | .lit (.string bytes) => bytes.length + 1
  | .lit _ => 1
  | .nil => 1
  | .ptr d => uptoBulk d + 1
  | .slice elems spare => uptoBulkAll elems + uptoBulkAll spare + 1
  | .agg parts => uptoBulkAll parts + 1
  | .iface _ d => uptoBulk d + 1
  | .map entries => uptoBulkEntries entries + 1
  | .held _ => 1
def uptoBulkAll {H : Type} : List (DataW H) → Nat
  | [] => 0
  | d :: r => uptoBulk d + uptoBulkAll r
def uptoBulkEntries {H : Type} : List (Lit × DataW H) → Nat
  | [] => 0
  | x :: r => uptoBulkEntry x + uptoBulkEntries r
def uptoBulkEntry {H : Type} : Lit × DataW H → Nat
  | (.string bytes, d) => bytes.length + uptoBulk d + 1
  | (_, d) => uptoBulk d + 1
 end
def uptoSmall : (H : Type) → List (DataW H) → Bool := fun _ ds => decide (uptoBulkAll ds ≤ 1048576)
def OpenSpec.upto (s : _root_.Go.ChangeSpec) : _root_.Go.OpenSpec := { _root_.Go.OpenSpec.ofChange s with cond := some uptoSmall }

/-- 'fellkeep.CompLeads', WHERE WHAT IT READS IS OF BULK AT MOST 1048576: true; the input reads as it did. -/
def compLeadsUptoRow : OpenClaim := { program := "ytjhnlkmdkjlkdaa", sum := "fd914903b65348e00f7d81c3a11268485cdff35368c636bdc6aaa901a8d84cbc", func := "fellwalker/fellkeep.CompLeads", spec := "compLeads", unfollowed := true, recurses := true, apart := false, narrowed := true }
def CompLeadsUptoSaid : Prop := compLeadsUptoRow.holds Try.pinned (OpenSpec.upto compLeadsSpec)

/-- 'fellkeep.CompOrder', WHERE WHAT IT READS IS OF BULK AT MOST 1048576: true; the input reads as it did. -/
def compOrderUptoRow : OpenClaim := { program := "ytjhnlkmdkjlkdaa", sum := "fd914903b65348e00f7d81c3a11268485cdff35368c636bdc6aaa901a8d84cbc", func := "fellwalker/fellkeep.CompOrder", spec := "compOrder", unfollowed := true, recurses := true, apart := false, narrowed := true }
def CompOrderUptoSaid : Prop := compOrderUptoRow.holds Try.pinned (OpenSpec.upto compOrderSpec)

/-- 'fellkeep.DagKnots', WHERE WHAT IT READS IS OF BULK AT MOST 1048576: true; the input reads as it did. -/
def dagKnotsUptoRow : OpenClaim := { program := "ytjhnlkmdkjlkdaa", sum := "fd914903b65348e00f7d81c3a11268485cdff35368c636bdc6aaa901a8d84cbc", func := "fellwalker/fellkeep.DagKnots", spec := "dagKnots", unfollowed := true, recurses := true, apart := false, narrowed := true }
def DagKnotsUptoSaid : Prop := dagKnotsUptoRow.holds Try.pinned (OpenSpec.upto dagKnotsSpec)

/-- 'felltop.TopKnots', WHERE WHAT IT READS IS OF BULK AT MOST 1048576: true; the input reads as it did. -/
def topKnotsUptoRow : OpenClaim := { program := "ytjhnlkmdkjlkdaa", sum := "fd914903b65348e00f7d81c3a11268485cdff35368c636bdc6aaa901a8d84cbc", func := "fellwalker/felltop.TopKnots", spec := "topKnots", unfollowed := true, recurses := true, apart := false, narrowed := true }
def TopKnotsUptoSaid : Prop := topKnotsUptoRow.holds Try.pinned (OpenSpec.upto topKnotsSpec)

/-- 'fellkeep.TwinTurns', WHERE WHAT IT READS IS OF BULK AT MOST 1048576: true; the input reads as it did. -/
def twinTurnsUptoRow : OpenClaim := { program := "ytjhnlkmdkjlkdaa", sum := "fd914903b65348e00f7d81c3a11268485cdff35368c636bdc6aaa901a8d84cbc", func := "fellwalker/fellkeep.TwinTurns", spec := "twinTurns", apart := false, narrowed := true }
def TwinTurnsUptoSaid : Prop := twinTurnsUptoRow.holds Try.pinned (OpenSpec.upto twinTurnsSpec)

/-- 'fellkeep.TwinFlow', WHERE WHAT IT READS IS OF BULK AT MOST 1048576: true; the input reads as it did. -/
def twinFlowUptoRow : OpenClaim := { program := "ytjhnlkmdkjlkdaa", sum := "fd914903b65348e00f7d81c3a11268485cdff35368c636bdc6aaa901a8d84cbc", func := "fellwalker/fellkeep.TwinFlow", spec := "twinFlow", apart := false, narrowed := true }
def TwinFlowUptoSaid : Prop := twinFlowUptoRow.holds Try.pinned (OpenSpec.upto twinFlowSpec)

/-- 'fellkeep.LifeBack', WHERE WHAT IT READS IS OF BULK AT MOST 1048576: true; the input reads as it did. -/
def lifeBackUptoRow : OpenClaim := { program := "ytjhnlkmdkjlkdaa", sum := "fd914903b65348e00f7d81c3a11268485cdff35368c636bdc6aaa901a8d84cbc", func := "fellwalker/fellkeep.LifeBack", spec := "lifeBack", unfollowed := true, recurses := true, apart := false, narrowed := true }
def LifeBackUptoSaid : Prop := lifeBackUptoRow.holds Try.pinned (OpenSpec.upto lifeBackSpec)

/-- 'fellkeep.LifeOwn', WHERE WHAT IT READS IS OF BULK AT MOST 1048576: true; the input reads as it did. -/
def lifeOwnUptoRow : OpenClaim := { program := "ytjhnlkmdkjlkdaa", sum := "fd914903b65348e00f7d81c3a11268485cdff35368c636bdc6aaa901a8d84cbc", func := "fellwalker/fellkeep.LifeOwn", spec := "lifeOwn", unfollowed := true, recurses := true, apart := false, narrowed := true }
def LifeOwnUptoSaid : Prop := lifeOwnUptoRow.holds Try.pinned (OpenSpec.upto lifeOwnSpec)

/-- 'fellkeep.LifeSame', WHERE WHAT IT READS IS OF BULK AT MOST 1048576: true; the input reads as it did. -/
def lifeSameUptoRow : OpenClaim := { program := "ytjhnlkmdkjlkdaa", sum := "fd914903b65348e00f7d81c3a11268485cdff35368c636bdc6aaa901a8d84cbc", func := "fellwalker/fellkeep.LifeSame", spec := "lifeSame", unfollowed := true, recurses := true, apart := false, narrowed := true }
def LifeSameUptoSaid : Prop := lifeSameUptoRow.holds Try.pinned (OpenSpec.upto lifeSameSpec)

/-- 'felltop.TopMended', WHERE WHAT IT READS IS OF BULK AT MOST 1048576: true; the input reads as it did. -/
def topMendedUptoRow : OpenClaim := { program := "ytjhnlkmdkjlkdaa", sum := "fd914903b65348e00f7d81c3a11268485cdff35368c636bdc6aaa901a8d84cbc", func := "fellwalker/felltop.TopMended", spec := "topMended", unfollowed := true, recurses := true, apart := false, narrowed := true }
def TopMendedUptoSaid : Prop := topMendedUptoRow.holds Try.pinned (OpenSpec.upto topMendedSpec)

/-- 'fellkeep.YenOrders', WHERE WHAT IT READS IS OF BULK AT MOST 1048576: true; the input reads as it did. -/
def yenOrdersUptoRow : OpenClaim := { program := "ytjhnlkmdkjlkdaa", sum := "fd914903b65348e00f7d81c3a11268485cdff35368c636bdc6aaa901a8d84cbc", func := "fellwalker/fellkeep.YenOrders", spec := "yenOrders", unfollowed := true, recurses := true, apart := false, narrowed := true }
def YenOrdersUptoSaid : Prop := yenOrdersUptoRow.holds Try.pinned (OpenSpec.upto yenOrdersSpec)

/-- 'fellkeep.YenMore', WHERE WHAT IT READS IS OF BULK AT MOST 1048576: true; the input reads as it did. -/
def yenMoreUptoRow : OpenClaim := { program := "ytjhnlkmdkjlkdaa", sum := "fd914903b65348e00f7d81c3a11268485cdff35368c636bdc6aaa901a8d84cbc", func := "fellwalker/fellkeep.YenMore", spec := "yenMore", unfollowed := true, recurses := true, apart := false, narrowed := true }
def YenMoreUptoSaid : Prop := yenMoreUptoRow.holds Try.pinned (OpenSpec.upto yenMoreSpec)

end Rows
end Go.Proofs.Ytjhnlkmdkjlkdaa
