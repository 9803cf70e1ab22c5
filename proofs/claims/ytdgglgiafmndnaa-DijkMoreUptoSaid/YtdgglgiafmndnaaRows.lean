/-
  No cell of these rows narrows 'for every input' (looked for: loops, veiled, ifaces, maps, wideKeys, modest, calm, conditions, laid).
  DERIVED. THE GIVEN ROWS OF THIS SEAT. 12 by the template 'for every input the law returns true; each argument reads behind the call as it read before'; 0 by the template 'total and deterministic' (their statements: YtdgglgiafmndnaaTotals.lean).
  GIVEN WITH THE SEED: the statements are not yours to turn. If you find one false, say at which input.
  Laid BY PROGRAM, IN A SANDBOX (cutbox-rows.mjs): the forced cells as the released guide's own fill.sh prints them over the translation c69304f07f08aae6… (all of the seat's roots in one cut). By AI agents, Wed Nov 11 2026. No macro, syntax, notation, axiom, sorry.
-/
import Derived.Test.YtdgglgiafmndnaaChecked
import GoSem.Claim
import GoSem.ClaimJoined
import GoSem.ClaimMapViews
import Derived.JoinedTies
import Derived.KernelRfl
namespace Go.Proofs.Ytdgglgiafmndnaa
/- THE CELL 'sum', in the pinned program and in every row, IS THE sha256 OF THE DUMP (.gsa) THAT YtdgglgiafmndnaaProg.lean LOADS. Nothing in Lean hashes anything: it is a label: what it is worth is what the hold of that sum in a sandbox is worth. -/
noncomputable def Try.pinned : Pinned := { name := "ytdgglgiafmndnaa", sum := "c69304f07f08aae6106aabbcbedace6dbe80983bcde5ba581002a526bba67358", checked := Try.checked }
namespace Rows
def none {H : Type} : Left H := { results := [], args := [] }

/-- 'fellkeep.FloydBetween': WHATEVER THE INPUT: true; the input reads as it did. -/
def floydBetweenSpec : ChangeSpec := { name := "floydBetween", fn := fun _ => fun
  | [d1, d2, d3, d4] => { results := [.lit (.bool true)], args := [d1, d2, d3, d4] }
  | _ => none }
def floydBetweenRow : OpenClaim := { program := "ytdgglgiafmndnaa", sum := "c69304f07f08aae6106aabbcbedace6dbe80983bcde5ba581002a526bba67358", func := "fellwalker/fellkeep.FloydBetween", spec := "floydBetween", unfollowed := true, recurses := true, apart := false }
def FloydBetweenSaid : Prop := floydBetweenRow.holds Try.pinned (OpenSpec.ofChange floydBetweenSpec)

/-- ITS FALSE NEIGHBOUR: 'it returns false'. Refute it at one input. -/
def floydBetweenWrong : ChangeSpec := { name := "floydBetween", fn := fun _ => fun
  | [d1, d2, d3, d4] => { results := [.lit (.bool false)], args := [d1, d2, d3, d4] }
  | _ => none }
def FloydBetweenWrongFalsely : Prop := floydBetweenRow.holds Try.pinned (OpenSpec.ofChange floydBetweenWrong)

/-- 'fellkeep.NetOwn': WHATEVER THE INPUT: true; the input reads as it did. -/
def netOwnSpec : ChangeSpec := { name := "netOwn", fn := fun _ => fun
  | [d1, d2] => { results := [.lit (.bool true)], args := [d1, d2] }
  | _ => none }
def netOwnRow : OpenClaim := { program := "ytdgglgiafmndnaa", sum := "c69304f07f08aae6106aabbcbedace6dbe80983bcde5ba581002a526bba67358", func := "fellwalker/fellkeep.NetOwn", spec := "netOwn", apart := false }
def NetOwnSaid : Prop := netOwnRow.holds Try.pinned (OpenSpec.ofChange netOwnSpec)

/-- ITS FALSE NEIGHBOUR: 'it returns false'. Refute it at one input. -/
def netOwnWrong : ChangeSpec := { name := "netOwn", fn := fun _ => fun
  | [d1, d2] => { results := [.lit (.bool false)], args := [d1, d2] }
  | _ => none }
def NetOwnWrongFalsely : Prop := netOwnRow.holds Try.pinned (OpenSpec.ofChange netOwnWrong)

/-- 'fellkeep.MapsBack': WHATEVER THE INPUT: true; the input reads as it did. -/
def mapsBackSpec : ChangeSpec := { name := "mapsBack", fn := fun _ => fun
  | [d] => { results := [.lit (.bool true)], args := [d] }
  | _ => none }
def mapsBackRow : OpenClaim := { program := "ytdgglgiafmndnaa", sum := "c69304f07f08aae6106aabbcbedace6dbe80983bcde5ba581002a526bba67358", func := "fellwalker/fellkeep.MapsBack", spec := "mapsBack", inPlace := ["internal/abi.NoEscape", "internal/bytealg.IndexByteString"], apart := false }
def MapsBackSaid : Prop := mapsBackRow.holds Try.pinned (OpenSpec.ofChange mapsBackSpec)

/-- ITS FALSE NEIGHBOUR: 'it returns false'. Refute it at one input. -/
def mapsBackWrong : ChangeSpec := { name := "mapsBack", fn := fun _ => fun
  | [d] => { results := [.lit (.bool false)], args := [d] }
  | _ => none }
def MapsBackWrongFalsely : Prop := mapsBackRow.holds Try.pinned (OpenSpec.ofChange mapsBackWrong)

/-- 'fellkeep.MapsAgain': WHATEVER THE INPUT: true; the input reads as it did. -/
def mapsAgainSpec : ChangeSpec := { name := "mapsAgain", fn := fun _ => fun
  | [d] => { results := [.lit (.bool true)], args := [d] }
  | _ => none }
def mapsAgainRow : OpenClaim := { program := "ytdgglgiafmndnaa", sum := "c69304f07f08aae6106aabbcbedace6dbe80983bcde5ba581002a526bba67358", func := "fellwalker/fellkeep.MapsAgain", spec := "mapsAgain", inPlace := ["internal/bytealg.IndexByteString", "internal/abi.NoEscape"], apart := false }
def MapsAgainSaid : Prop := mapsAgainRow.holds Try.pinned (OpenSpec.ofChange mapsAgainSpec)

/-- ITS FALSE NEIGHBOUR: 'it returns false'. Refute it at one input. -/
def mapsAgainWrong : ChangeSpec := { name := "mapsAgain", fn := fun _ => fun
  | [d] => { results := [.lit (.bool false)], args := [d] }
  | _ => none }
def MapsAgainWrongFalsely : Prop := mapsAgainRow.holds Try.pinned (OpenSpec.ofChange mapsAgainWrong)

/-- 'fellkeep.FloydWidth': WHATEVER THE INPUT: true; the input reads as it did. -/
def floydWidthSpec : ChangeSpec := { name := "floydWidth", fn := fun _ => fun
  | [d1, d2, d3, d4] => { results := [.lit (.bool true)], args := [d1, d2, d3, d4] }
  | _ => none }
def floydWidthRow : OpenClaim := { program := "ytdgglgiafmndnaa", sum := "c69304f07f08aae6106aabbcbedace6dbe80983bcde5ba581002a526bba67358", func := "fellwalker/fellkeep.FloydWidth", spec := "floydWidth", unfollowed := true, recurses := true, apart := false }
def FloydWidthSaid : Prop := floydWidthRow.holds Try.pinned (OpenSpec.ofChange floydWidthSpec)

/-- ITS FALSE NEIGHBOUR: 'it returns false'. Refute it at one input. -/
def floydWidthWrong : ChangeSpec := { name := "floydWidth", fn := fun _ => fun
  | [d1, d2, d3, d4] => { results := [.lit (.bool false)], args := [d1, d2, d3, d4] }
  | _ => none }
def FloydWidthWrongFalsely : Prop := floydWidthRow.holds Try.pinned (OpenSpec.ofChange floydWidthWrong)

/-- 'fellkeep.HeapLeast': WHATEVER THE INPUT: true; the input reads as it did. -/
def heapLeastSpec : ChangeSpec := { name := "heapLeast", fn := fun _ => fun
  | [d1, d2, d3] => { results := [.lit (.bool true)], args := [d1, d2, d3] }
  | _ => none }
def heapLeastRow : OpenClaim := { program := "ytdgglgiafmndnaa", sum := "c69304f07f08aae6106aabbcbedace6dbe80983bcde5ba581002a526bba67358", func := "fellwalker/fellkeep.HeapLeast", spec := "heapLeast", unfollowed := true, recurses := true, apart := false }
def HeapLeastSaid : Prop := heapLeastRow.holds Try.pinned (OpenSpec.ofChange heapLeastSpec)

/-- ITS FALSE NEIGHBOUR: 'it returns false'. Refute it at one input. -/
def heapLeastWrong : ChangeSpec := { name := "heapLeast", fn := fun _ => fun
  | [d1, d2, d3] => { results := [.lit (.bool false)], args := [d1, d2, d3] }
  | _ => none }
def HeapLeastWrongFalsely : Prop := heapLeastRow.holds Try.pinned (OpenSpec.ofChange heapLeastWrong)

/-- 'fellkeep.JohnShifts': WHATEVER THE INPUT: true; the input reads as it did. -/
def johnShiftsSpec : ChangeSpec := { name := "johnShifts", fn := fun _ => fun
  | [d1, d2, d3] => { results := [.lit (.bool true)], args := [d1, d2, d3] }
  | _ => none }
def johnShiftsRow : OpenClaim := { program := "ytdgglgiafmndnaa", sum := "c69304f07f08aae6106aabbcbedace6dbe80983bcde5ba581002a526bba67358", func := "fellwalker/fellkeep.JohnShifts", spec := "johnShifts", apart := false }
def JohnShiftsSaid : Prop := johnShiftsRow.holds Try.pinned (OpenSpec.ofChange johnShiftsSpec)

/-- ITS FALSE NEIGHBOUR: 'it returns false'. Refute it at one input. -/
def johnShiftsWrong : ChangeSpec := { name := "johnShifts", fn := fun _ => fun
  | [d1, d2, d3] => { results := [.lit (.bool false)], args := [d1, d2, d3] }
  | _ => none }
def JohnShiftsWrongFalsely : Prop := johnShiftsRow.holds Try.pinned (OpenSpec.ofChange johnShiftsWrong)

/-- 'felltop.TopBest': WHATEVER THE INPUT: true; the input reads as it did. -/
def topBestSpec : ChangeSpec := { name := "topBest", fn := fun _ => fun
  | [d1, d2] => { results := [.lit (.bool true)], args := [d1, d2] }
  | _ => none }
def topBestRow : OpenClaim := { program := "ytdgglgiafmndnaa", sum := "c69304f07f08aae6106aabbcbedace6dbe80983bcde5ba581002a526bba67358", func := "fellwalker/felltop.TopBest", spec := "topBest", unfollowed := true, recurses := true, apart := false }
def TopBestSaid : Prop := topBestRow.holds Try.pinned (OpenSpec.ofChange topBestSpec)

/-- ITS FALSE NEIGHBOUR: 'it returns false'. Refute it at one input. -/
def topBestWrong : ChangeSpec := { name := "topBest", fn := fun _ => fun
  | [d1, d2] => { results := [.lit (.bool false)], args := [d1, d2] }
  | _ => none }
def TopBestWrongFalsely : Prop := topBestRow.holds Try.pinned (OpenSpec.ofChange topBestWrong)

/-- 'fellkeep.WalkLess': WHATEVER THE INPUT: true; the input reads as it did. -/
def walkLessSpec : ChangeSpec := { name := "walkLess", fn := fun _ => fun
  | [d1, d2] => { results := [.lit (.bool true)], args := [d1, d2] }
  | _ => none }
def walkLessRow : OpenClaim := { program := "ytdgglgiafmndnaa", sum := "c69304f07f08aae6106aabbcbedace6dbe80983bcde5ba581002a526bba67358", func := "fellwalker/fellkeep.WalkLess", spec := "walkLess", apart := false }
def WalkLessSaid : Prop := walkLessRow.holds Try.pinned (OpenSpec.ofChange walkLessSpec)

/-- ITS FALSE NEIGHBOUR: 'it returns false'. Refute it at one input. -/
def walkLessWrong : ChangeSpec := { name := "walkLess", fn := fun _ => fun
  | [d1, d2] => { results := [.lit (.bool false)], args := [d1, d2] }
  | _ => none }
def WalkLessWrongFalsely : Prop := walkLessRow.holds Try.pinned (OpenSpec.ofChange walkLessWrong)

/-- 'fellkeep.FloydTurns': WHATEVER THE INPUT: true; the input reads as it did. -/
def floydTurnsSpec : ChangeSpec := { name := "floydTurns", fn := fun _ => fun
  | [d1, d2, d3] => { results := [.lit (.bool true)], args := [d1, d2, d3] }
  | _ => none }
def floydTurnsRow : OpenClaim := { program := "ytdgglgiafmndnaa", sum := "c69304f07f08aae6106aabbcbedace6dbe80983bcde5ba581002a526bba67358", func := "fellwalker/fellkeep.FloydTurns", spec := "floydTurns", unfollowed := true, recurses := true, apart := false }
def FloydTurnsSaid : Prop := floydTurnsRow.holds Try.pinned (OpenSpec.ofChange floydTurnsSpec)

/-- ITS FALSE NEIGHBOUR: 'it returns false'. Refute it at one input. -/
def floydTurnsWrong : ChangeSpec := { name := "floydTurns", fn := fun _ => fun
  | [d1, d2, d3] => { results := [.lit (.bool false)], args := [d1, d2, d3] }
  | _ => none }
def FloydTurnsWrongFalsely : Prop := floydTurnsRow.holds Try.pinned (OpenSpec.ofChange floydTurnsWrong)

/-- 'fellkeep.TwinTurns': WHATEVER THE INPUT: true; the input reads as it did. -/
def twinTurnsSpec : ChangeSpec := { name := "twinTurns", fn := fun _ => fun
  | [d1, d2, d3] => { results := [.lit (.bool true)], args := [d1, d2, d3] }
  | _ => none }
def twinTurnsRow : OpenClaim := { program := "ytdgglgiafmndnaa", sum := "c69304f07f08aae6106aabbcbedace6dbe80983bcde5ba581002a526bba67358", func := "fellwalker/fellkeep.TwinTurns", spec := "twinTurns", apart := false }
def TwinTurnsSaid : Prop := twinTurnsRow.holds Try.pinned (OpenSpec.ofChange twinTurnsSpec)

/-- ITS FALSE NEIGHBOUR: 'it returns false'. Refute it at one input. -/
def twinTurnsWrong : ChangeSpec := { name := "twinTurns", fn := fun _ => fun
  | [d1, d2, d3] => { results := [.lit (.bool false)], args := [d1, d2, d3] }
  | _ => none }
def TwinTurnsWrongFalsely : Prop := twinTurnsRow.holds Try.pinned (OpenSpec.ofChange twinTurnsWrong)

/-- 'fellkeep.DijkMore': WHATEVER THE INPUT: true; the input reads as it did. -/
def dijkMoreSpec : ChangeSpec := { name := "dijkMore", fn := fun _ => fun
  | [d1, d2, d3] => { results := [.lit (.bool true)], args := [d1, d2, d3] }
  | _ => none }
def dijkMoreRow : OpenClaim := { program := "ytdgglgiafmndnaa", sum := "c69304f07f08aae6106aabbcbedace6dbe80983bcde5ba581002a526bba67358", func := "fellwalker/fellkeep.DijkMore", spec := "dijkMore", unfollowed := true, recurses := true, apart := false }
def DijkMoreSaid : Prop := dijkMoreRow.holds Try.pinned (OpenSpec.ofChange dijkMoreSpec)

/-- ITS FALSE NEIGHBOUR: 'it returns false'. Refute it at one input. -/
def dijkMoreWrong : ChangeSpec := { name := "dijkMore", fn := fun _ => fun
  | [d1, d2, d3] => { results := [.lit (.bool false)], args := [d1, d2, d3] }
  | _ => none }
def DijkMoreWrongFalsely : Prop := dijkMoreRow.holds Try.pinned (OpenSpec.ofChange dijkMoreWrong)

/- THE SECOND FORM. 'bulk': how many values and letters a reading holds, each counted each time it is reached (what is shared counts as often as it is met; a slice's spare places count too). A statement '..UptoSaid' is the law's where the arguments, and the package variables that the reading takes, are together of bulk at most 1048576: NARROWER than '..Said'. Prove '..Said' where nothing that the law and all that it calls make is longer than what came in: it says more and counts as full. Else prove '..UptoSaid'. A law counts once. -/
mutual
def uptoBulk {H : Type} : DataW H → Nat
  | .lit (.string bytes) => bytes.length + 1
  | .lit _ => 1
  | .nil => 1
  | .ptr d => uptoBulk d + 1
  | .slice elems spare => uptoBulkAll elems + uptoBulkAll spare + 1
  | .agg parts => uptoBulkAll parts + 1
  | .iface _ d => uptoBulk d + 1
  | .map entries => uptoBulkEntries entries + 1
  | .held _ => 1
def uptoBulkAll {H : Type} : List (DataW H) → Nat
  | [] => 0
  | d :: r => uptoBulk d + uptoBulkAll r
def uptoBulkEntries {H : Type} : List (Lit × DataW H) → Nat
  | [] => 0
  | x :: r => uptoBulkEntry x + uptoBulkEntries r
def uptoBulkEntry {H : Type} : Lit × DataW H → Nat
  | (.string bytes, d) => bytes.length + uptoBulk d + 1
  | (_, d) => uptoBulk d + 1
 end
def uptoSmall : (H : Type) → List (DataW H) → Bool := fun _ ds => decide (uptoBulkAll ds ≤ 1048576)
def OpenSpec.upto (s : _root_.Go.ChangeSpec) : _root_.Go.OpenSpec := { _root_.Go.OpenSpec.ofChange s with cond := some uptoSmall }

/-- 'fellkeep.FloydBetween', WHERE WHAT IT READS IS OF BULK AT MOST 1048576: true; the input reads as it did. -/
def floydBetweenUptoRow : OpenClaim := { program := "ytdgglgiafmndnaa", sum := "c69304f07f08aae6106aabbcbedace6dbe80983bcde5ba581002a526bba67358", func := "fellwalker/fellkeep.FloydBetween", spec := "floydBetween", unfollowed := true, recurses := true, apart := false, narrowed := true }
def FloydBetweenUptoSaid : Prop := floydBetweenUptoRow.holds Try.pinned (OpenSpec.upto floydBetweenSpec)

/-- 'fellkeep.NetOwn', WHERE WHAT IT READS IS OF BULK AT MOST 1048576: true; the input reads as it did. -/
def netOwnUptoRow : OpenClaim := { program := "ytdgglgiafmndnaa", sum := "c69304f07f08aae6106aabbcbedace6dbe80983bcde5ba581002a526bba67358", func := "fellwalker/fellkeep.NetOwn", spec := "netOwn", apart := false, narrowed := true }
def NetOwnUptoSaid : Prop := netOwnUptoRow.holds Try.pinned (OpenSpec.upto netOwnSpec)

/-- 'fellkeep.MapsBack', WHERE WHAT IT READS IS OF BULK AT MOST 1048576: true; the input reads as it did. -/
def mapsBackUptoRow : OpenClaim := { program := "ytdgglgiafmndnaa", sum := "c69304f07f08aae6106aabbcbedace6dbe80983bcde5ba581002a526bba67358", func := "fellwalker/fellkeep.MapsBack", spec := "mapsBack", inPlace := ["internal/abi.NoEscape", "internal/bytealg.IndexByteString"], apart := false, narrowed := true }
def MapsBackUptoSaid : Prop := mapsBackUptoRow.holds Try.pinned (OpenSpec.upto mapsBackSpec)

/-- 'fellkeep.MapsAgain', WHERE WHAT IT READS IS OF BULK AT MOST 1048576: true; the input reads as it did. -/
def mapsAgainUptoRow : OpenClaim := { program := "ytdgglgiafmndnaa", sum := "c69304f07f08aae6106aabbcbedace6dbe80983bcde5ba581002a526bba67358", func := "fellwalker/fellkeep.MapsAgain", spec := "mapsAgain", inPlace := ["internal/bytealg.IndexByteString", "internal/abi.NoEscape"], apart := false, narrowed := true }
def MapsAgainUptoSaid : Prop := mapsAgainUptoRow.holds Try.pinned (OpenSpec.upto mapsAgainSpec)

/-- 'fellkeep.FloydWidth', WHERE WHAT IT READS IS OF BULK AT MOST 1048576: true; the input reads as it did. -/
def floydWidthUptoRow : OpenClaim := { program := "ytdgglgiafmndnaa", sum := "c69304f07f08aae6106aabbcbedace6dbe80983bcde5ba581002a526bba67358", func := "fellwalker/fellkeep.FloydWidth", spec := "floydWidth", unfollowed := true, recurses := true, apart := false, narrowed := true }
def FloydWidthUptoSaid : Prop := floydWidthUptoRow.holds Try.pinned (OpenSpec.upto floydWidthSpec)

/-- 'fellkeep.HeapLeast', WHERE WHAT IT READS IS OF BULK AT MOST 1048576: true; the input reads as it did. -/
def heapLeastUptoRow : OpenClaim := { program := "ytdgglgiafmndnaa", sum := "c69304f07f08aae6106aabbcbedace6dbe80983bcde5ba581002a526bba67358", func := "fellwalker/fellkeep.HeapLeast", spec := "heapLeast", unfollowed := true, recurses := true, apart := false, narrowed := true }
def HeapLeastUptoSaid : Prop := heapLeastUptoRow.holds Try.pinned (OpenSpec.upto heapLeastSpec)

/-- 'fellkeep.JohnShifts', WHERE WHAT IT READS IS OF BULK AT MOST 1048576: true; the input reads as it did. -/
def johnShiftsUptoRow : OpenClaim := { program := "ytdgglgiafmndnaa", sum := "c69304f07f08aae6106aabbcbedace6dbe80983bcde5ba581002a526bba67358", func := "fellwalker/fellkeep.JohnShifts", spec := "johnShifts", apart := false, narrowed := true }
def JohnShiftsUptoSaid : Prop := johnShiftsUptoRow.holds Try.pinned (OpenSpec.upto johnShiftsSpec)

/-- 'felltop.TopBest', WHERE WHAT IT READS IS OF BULK AT MOST 1048576: true; the input reads as it did. -/
def topBestUptoRow : OpenClaim := { program := "ytdgglgiafmndnaa", sum := "c69304f07f08aae6106aabbcbedace6dbe80983bcde5ba581002a526bba67358", func := "fellwalker/felltop.TopBest", spec := "topBest", unfollowed := true, recurses := true, apart := false, narrowed := true }
def TopBestUptoSaid : Prop := topBestUptoRow.holds Try.pinned (OpenSpec.upto topBestSpec)

/-- 'fellkeep.WalkLess', WHERE WHAT IT READS IS OF BULK AT MOST 1048576: true; the input reads as it did. -/
def walkLessUptoRow : OpenClaim := { program := "ytdgglgiafmndnaa", sum := "c69304f07f08aae6106aabbcbedace6dbe80983bcde5ba581002a526bba67358", func := "fellwalker/fellkeep.WalkLess", spec := "walkLess", apart := false, narrowed := true }
def WalkLessUptoSaid : Prop := walkLessUptoRow.holds Try.pinned (OpenSpec.upto walkLessSpec)

/-- 'fellkeep.FloydTurns', WHERE WHAT IT READS IS OF BULK AT MOST 1048576: true; the input reads as it did. -/
def floydTurnsUptoRow : OpenClaim := { program := "ytdgglgiafmndnaa", sum := "c69304f07f08aae6106aabbcbedace6dbe80983bcde5ba581002a526bba67358", func := "fellwalker/fellkeep.FloydTurns", spec := "floydTurns", unfollowed := true, recurses := true, apart := false, narrowed := true }
def FloydTurnsUptoSaid : Prop := floydTurnsUptoRow.holds Try.pinned (OpenSpec.upto floydTurnsSpec)

/-- 'fellkeep.TwinTurns', WHERE WHAT IT READS IS OF BULK AT MOST 1048576: true; the input reads as it did. -/
def twinTurnsUptoRow : OpenClaim := { program := "ytdgglgiafmndnaa", sum := "c69304f07f08aae6106aabbcbedace6dbe80983bcde5ba581002a526bba67358", func := "fellwalker/fellkeep.TwinTurns", spec := "twinTurns", apart := false, narrowed := true }
def TwinTurnsUptoSaid : Prop := twinTurnsUptoRow.holds Try.pinned (OpenSpec.upto twinTurnsSpec)

/-- 'fellkeep.DijkMore', WHERE WHAT IT READS IS OF BULK AT MOST 1048576: true; the input reads as it did. -/
def dijkMoreUptoRow : OpenClaim := { program := "ytdgglgiafmndnaa", sum := "c69304f07f08aae6106aabbcbedace6dbe80983bcde5ba581002a526bba67358", func := "fellwalker/fellkeep.DijkMore", spec := "dijkMore", unfollowed := true, recurses := true, apart := false, narrowed := true }
def DijkMoreUptoSaid : Prop := dijkMoreUptoRow.holds Try.pinned (OpenSpec.upto dijkMoreSpec)

end Rows
end Go.Proofs.Ytdgglgiafmndnaa
