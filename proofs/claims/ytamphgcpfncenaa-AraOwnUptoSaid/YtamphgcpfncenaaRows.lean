/-
  No cell of these rows narrows 'for every input' (looked for: loops, veiled, ifaces, maps, wideKeys, modest, calm, conditions, laid).
  DERIVED. THE GIVEN ROWS OF THIS SEAT. 10 by the template 'for every input the law returns true; each argument reads behind the call as it read before'; 0 by the template 'total and deterministic' (their statements: YtamphgcpfncenaaTotals.lean).
  GIVEN WITH THE SEED: the statements are not yours to turn. If you find one false, say at which input.
  Laid BY PROGRAM, IN A SANDBOX (cutbox-rows.mjs): the forced cells as the released guide's own fill.sh prints them over the translation 7b31202c13fc9c03… (all of the seat's roots in one cut). By AI agents, Wed Nov 11 2026. No macro, syntax, notation, axiom, sorry.
-/
import Derived.Test.YtamphgcpfncenaaChecked
import GoSem.Claim
import GoSem.ClaimJoined
import GoSem.ClaimMapViews
import Derived.JoinedTies
import Derived.KernelRfl
namespace Go.Proofs.Ytamphgcpfncenaa
/- THE CELL 'sum', in the pinned program and in every row, IS THE sha256 OF THE DUMP (.gsa) THAT YtamphgcpfncenaaProg.lean LOADS. Nothing in Lean hashes anything: it is a label: what it is worth is what the hold of that sum in a sandbox is worth. -/
noncomputable def Try.pinned : Pinned := { name := "ytamphgcpfncenaa", sum := "7b31202c13fc9c03e07e9af77936b759631b99fd6530c2806f2d781ddb86d737", checked := Try.checked }
namespace Rows
def none {H : Type} : Left H := { results := [], args := [] }

/-- 'fellkeep.LifeOwn': WHATEVER THE INPUT: true; the input reads as it did. -/
def lifeOwnSpec : ChangeSpec := { name := "lifeOwn", fn := fun _ => fun
  | [d1, d2, d3] => { results := [.lit (.bool true)], args := [d1, d2, d3] }
  | _ => none }
def lifeOwnRow : OpenClaim := { program := "ytamphgcpfncenaa", sum := "7b31202c13fc9c03e07e9af77936b759631b99fd6530c2806f2d781ddb86d737", func := "fellwalker/fellkeep.LifeOwn", spec := "lifeOwn", unfollowed := true, recurses := true, plainKeys := false, apart := false }
def LifeOwnSaid : Prop := lifeOwnRow.holds Try.pinned (OpenSpec.ofChange lifeOwnSpec)

/-- ITS FALSE NEIGHBOUR: 'it returns false'. Refute it at one input. -/
def lifeOwnWrong : ChangeSpec := { name := "lifeOwn", fn := fun _ => fun
  | [d1, d2, d3] => { results := [.lit (.bool false)], args := [d1, d2, d3] }
  | _ => none }
def LifeOwnWrongFalsely : Prop := lifeOwnRow.holds Try.pinned (OpenSpec.ofChange lifeOwnWrong)

/-- 'fellkeep.LifeSame': WHATEVER THE INPUT: true; the input reads as it did. -/
def lifeSameSpec : ChangeSpec := { name := "lifeSame", fn := fun _ => fun
  | [d1, d2, d3, d4] => { results := [.lit (.bool true)], args := [d1, d2, d3, d4] }
  | _ => none }
def lifeSameRow : OpenClaim := { program := "ytamphgcpfncenaa", sum := "7b31202c13fc9c03e07e9af77936b759631b99fd6530c2806f2d781ddb86d737", func := "fellwalker/fellkeep.LifeSame", spec := "lifeSame", unfollowed := true, recurses := true, plainKeys := false, apart := false }
def LifeSameSaid : Prop := lifeSameRow.holds Try.pinned (OpenSpec.ofChange lifeSameSpec)

/-- ITS FALSE NEIGHBOUR: 'it returns false'. Refute it at one input. -/
def lifeSameWrong : ChangeSpec := { name := "lifeSame", fn := fun _ => fun
  | [d1, d2, d3, d4] => { results := [.lit (.bool false)], args := [d1, d2, d3, d4] }
  | _ => none }
def LifeSameWrongFalsely : Prop := lifeSameRow.holds Try.pinned (OpenSpec.ofChange lifeSameWrong)

/-- 'fellkeep.YenOrders': WHATEVER THE INPUT: true; the input reads as it did. -/
def yenOrdersSpec : ChangeSpec := { name := "yenOrders", fn := fun _ => fun
  | [d1, d2, d3, d4] => { results := [.lit (.bool true)], args := [d1, d2, d3, d4] }
  | _ => none }
def yenOrdersRow : OpenClaim := { program := "ytamphgcpfncenaa", sum := "7b31202c13fc9c03e07e9af77936b759631b99fd6530c2806f2d781ddb86d737", func := "fellwalker/fellkeep.YenOrders", spec := "yenOrders", unfollowed := true, recurses := true, plainKeys := false, apart := false }
def YenOrdersSaid : Prop := yenOrdersRow.holds Try.pinned (OpenSpec.ofChange yenOrdersSpec)

/-- ITS FALSE NEIGHBOUR: 'it returns false'. Refute it at one input. -/
def yenOrdersWrong : ChangeSpec := { name := "yenOrders", fn := fun _ => fun
  | [d1, d2, d3, d4] => { results := [.lit (.bool false)], args := [d1, d2, d3, d4] }
  | _ => none }
def YenOrdersWrongFalsely : Prop := yenOrdersRow.holds Try.pinned (OpenSpec.ofChange yenOrdersWrong)

/-- 'fellkeep.YenMore': WHATEVER THE INPUT: true; the input reads as it did. -/
def yenMoreSpec : ChangeSpec := { name := "yenMore", fn := fun _ => fun
  | [d1, d2, d3, d4, d5] => { results := [.lit (.bool true)], args := [d1, d2, d3, d4, d5] }
  | _ => none }
def yenMoreRow : OpenClaim := { program := "ytamphgcpfncenaa", sum := "7b31202c13fc9c03e07e9af77936b759631b99fd6530c2806f2d781ddb86d737", func := "fellwalker/fellkeep.YenMore", spec := "yenMore", unfollowed := true, recurses := true, plainKeys := false, apart := false }
def YenMoreSaid : Prop := yenMoreRow.holds Try.pinned (OpenSpec.ofChange yenMoreSpec)

/-- ITS FALSE NEIGHBOUR: 'it returns false'. Refute it at one input. -/
def yenMoreWrong : ChangeSpec := { name := "yenMore", fn := fun _ => fun
  | [d1, d2, d3, d4, d5] => { results := [.lit (.bool false)], args := [d1, d2, d3, d4, d5] }
  | _ => none }
def YenMoreWrongFalsely : Prop := yenMoreRow.holds Try.pinned (OpenSpec.ofChange yenMoreWrong)

/-- 'fellkeep.AraOnce': WHATEVER THE INPUT: true; the input reads as it did. -/
def araOnceSpec : ChangeSpec := { name := "araOnce", fn := fun _ => fun
  | [d1, d2, d3, d4, d5] => { results := [.lit (.bool true)], args := [d1, d2, d3, d4, d5] }
  | _ => none }
def araOnceRow : OpenClaim := { program := "ytamphgcpfncenaa", sum := "7b31202c13fc9c03e07e9af77936b759631b99fd6530c2806f2d781ddb86d737", func := "fellwalker/fellkeep.AraOnce", spec := "araOnce", unfollowed := true, recurses := true, plainKeys := false, apart := false }
def AraOnceSaid : Prop := araOnceRow.holds Try.pinned (OpenSpec.ofChange araOnceSpec)

/-- ITS FALSE NEIGHBOUR: 'it returns false'. Refute it at one input. -/
def araOnceWrong : ChangeSpec := { name := "araOnce", fn := fun _ => fun
  | [d1, d2, d3, d4, d5] => { results := [.lit (.bool false)], args := [d1, d2, d3, d4, d5] }
  | _ => none }
def AraOnceWrongFalsely : Prop := araOnceRow.holds Try.pinned (OpenSpec.ofChange araOnceWrong)

/-- 'fellkeep.YenWithout': WHATEVER THE INPUT: true; the input reads as it did. -/
def yenWithoutSpec : ChangeSpec := { name := "yenWithout", fn := fun _ => fun
  | [d1, d2, d3, d4, d5] => { results := [.lit (.bool true)], args := [d1, d2, d3, d4, d5] }
  | _ => none }
def yenWithoutRow : OpenClaim := { program := "ytamphgcpfncenaa", sum := "7b31202c13fc9c03e07e9af77936b759631b99fd6530c2806f2d781ddb86d737", func := "fellwalker/fellkeep.YenWithout", spec := "yenWithout", unfollowed := true, recurses := true, plainKeys := false, apart := false }
def YenWithoutSaid : Prop := yenWithoutRow.holds Try.pinned (OpenSpec.ofChange yenWithoutSpec)

/-- ITS FALSE NEIGHBOUR: 'it returns false'. Refute it at one input. -/
def yenWithoutWrong : ChangeSpec := { name := "yenWithout", fn := fun _ => fun
  | [d1, d2, d3, d4, d5] => { results := [.lit (.bool false)], args := [d1, d2, d3, d4, d5] }
  | _ => none }
def YenWithoutWrongFalsely : Prop := yenWithoutRow.holds Try.pinned (OpenSpec.ofChange yenWithoutWrong)

/-- 'fellkeep.AraBound': WHATEVER THE INPUT: true; the input reads as it did. -/
def araBoundSpec : ChangeSpec := { name := "araBound", fn := fun _ => fun
  | [d1, d2, d3, d4, d5] => { results := [.lit (.bool true)], args := [d1, d2, d3, d4, d5] }
  | _ => none }
def araBoundRow : OpenClaim := { program := "ytamphgcpfncenaa", sum := "7b31202c13fc9c03e07e9af77936b759631b99fd6530c2806f2d781ddb86d737", func := "fellwalker/fellkeep.AraBound", spec := "araBound", unfollowed := true, recurses := true, plainKeys := false, apart := false }
def AraBoundSaid : Prop := araBoundRow.holds Try.pinned (OpenSpec.ofChange araBoundSpec)

/-- ITS FALSE NEIGHBOUR: 'it returns false'. Refute it at one input. -/
def araBoundWrong : ChangeSpec := { name := "araBound", fn := fun _ => fun
  | [d1, d2, d3, d4, d5] => { results := [.lit (.bool false)], args := [d1, d2, d3, d4, d5] }
  | _ => none }
def AraBoundWrongFalsely : Prop := araBoundRow.holds Try.pinned (OpenSpec.ofChange araBoundWrong)

/-- 'fellkeep.AraSlices': WHATEVER THE INPUT: true; the input reads as it did. -/
def araSlicesSpec : ChangeSpec := { name := "araSlices", fn := fun _ => fun
  | [d1, d2, d3, d4, d5, d6] => { results := [.lit (.bool true)], args := [d1, d2, d3, d4, d5, d6] }
  | _ => none }
def araSlicesRow : OpenClaim := { program := "ytamphgcpfncenaa", sum := "7b31202c13fc9c03e07e9af77936b759631b99fd6530c2806f2d781ddb86d737", func := "fellwalker/fellkeep.AraSlices", spec := "araSlices", unfollowed := true, recurses := true, plainKeys := false, apart := false }
def AraSlicesSaid : Prop := araSlicesRow.holds Try.pinned (OpenSpec.ofChange araSlicesSpec)

/-- ITS FALSE NEIGHBOUR: 'it returns false'. Refute it at one input. -/
def araSlicesWrong : ChangeSpec := { name := "araSlices", fn := fun _ => fun
  | [d1, d2, d3, d4, d5, d6] => { results := [.lit (.bool false)], args := [d1, d2, d3, d4, d5, d6] }
  | _ => none }
def AraSlicesWrongFalsely : Prop := araSlicesRow.holds Try.pinned (OpenSpec.ofChange araSlicesWrong)

/-- 'fellkeep.AraOwn': WHATEVER THE INPUT: true; the input reads as it did. -/
def araOwnSpec : ChangeSpec := { name := "araOwn", fn := fun _ => fun
  | [d1, d2, d3, d4, d5, d6] => { results := [.lit (.bool true)], args := [d1, d2, d3, d4, d5, d6] }
  | _ => none }
def araOwnRow : OpenClaim := { program := "ytamphgcpfncenaa", sum := "7b31202c13fc9c03e07e9af77936b759631b99fd6530c2806f2d781ddb86d737", func := "fellwalker/fellkeep.AraOwn", spec := "araOwn", unfollowed := true, recurses := true, plainKeys := false, apart := false }
def AraOwnSaid : Prop := araOwnRow.holds Try.pinned (OpenSpec.ofChange araOwnSpec)

/-- ITS FALSE NEIGHBOUR: 'it returns false'. Refute it at one input. -/
def araOwnWrong : ChangeSpec := { name := "araOwn", fn := fun _ => fun
  | [d1, d2, d3, d4, d5, d6] => { results := [.lit (.bool false)], args := [d1, d2, d3, d4, d5, d6] }
  | _ => none }
def AraOwnWrongFalsely : Prop := araOwnRow.holds Try.pinned (OpenSpec.ofChange araOwnWrong)

/-- 'fellkeep.TwinApart': WHATEVER THE INPUT: true; the input reads as it did. -/
def twinApartSpec : ChangeSpec := { name := "twinApart", fn := fun _ => fun
  | [d1, d2, d3] => { results := [.lit (.bool true)], args := [d1, d2, d3] }
  | _ => none }
def twinApartRow : OpenClaim := { program := "ytamphgcpfncenaa", sum := "7b31202c13fc9c03e07e9af77936b759631b99fd6530c2806f2d781ddb86d737", func := "fellwalker/fellkeep.TwinApart", spec := "twinApart", unfollowed := true, recurses := true, plainKeys := false, apart := false }
def TwinApartSaid : Prop := twinApartRow.holds Try.pinned (OpenSpec.ofChange twinApartSpec)

/-- ITS FALSE NEIGHBOUR: 'it returns false'. Refute it at one input. -/
def twinApartWrong : ChangeSpec := { name := "twinApart", fn := fun _ => fun
  | [d1, d2, d3] => { results := [.lit (.bool false)], args := [d1, d2, d3] }
  | _ => none }
def TwinApartWrongFalsely : Prop := twinApartRow.holds Try.pinned (OpenSpec.ofChange twinApartWrong)

/- THE SECOND FORM. 'bulk': how many values and letters a reading holds, each counted each time it is reached (what is shared counts as often as it is met; a slice's spare places count too). A statement '..UptoSaid' is the law's where the arguments, and the package variables that the reading takes, are together of bulk at most 1048576: NARROWER than '..Said'. Prove '..Said' where nothing that the law and all that it calls make is longer than what came in: it says more and counts as full. Else prove '..UptoSaid'. A law counts once. -/
mutual
def uptoBulk {H : Type} : DataW H → Nat
  | .lit (.string bytes) => bytes.length + 1
  | .lit _ => 1
  | .nil => 1
  | .ptr d => uptoBulk d + 1
  | .slice elems spare => uptoBulkAll elems + uptoBulkAll spare + 1
  | .agg parts => uptoBulkAll parts + 1
  | .iface _ d => uptoBulk d + 1
  | .map entries => uptoBulkEntries entries + 1
  | .held _ => 1
def uptoBulkAll {H : Type} : List (DataW H) → Nat
  | [] => 0
  | d :: r => uptoBulk d + uptoBulkAll r
def uptoBulkEntries {H : Type} : List (Lit × DataW H) → Nat
  | [] => 0
  | x :: r => uptoBulkEntry x + uptoBulkEntries r
def uptoBulkEntry {H : Type} : Lit × DataW H → Nat
  | (.string bytes, d) => bytes.length + uptoBulk d + 1
  | (_, d) => uptoBulk d + 1
 end
def uptoSmall : (H : Type) → List (DataW H) → Bool := fun _ ds => decide (uptoBulkAll ds ≤ 1048576)
def OpenSpec.upto (s : _root_.Go.ChangeSpec) : _root_.Go.OpenSpec := { _root_.Go.OpenSpec.ofChange s with cond := some uptoSmall }

/-- 'fellkeep.LifeOwn', WHERE WHAT IT READS IS OF BULK AT MOST 1048576: true; the input reads as it did. -/
def lifeOwnUptoRow : OpenClaim := { program := "ytamphgcpfncenaa", sum := "7b31202c13fc9c03e07e9af77936b759631b99fd6530c2806f2d781ddb86d737", func := "fellwalker/fellkeep.LifeOwn", spec := "lifeOwn", unfollowed := true, recurses := true, plainKeys := false, apart := false, narrowed := true }
def LifeOwnUptoSaid : Prop := lifeOwnUptoRow.holds Try.pinned (OpenSpec.upto lifeOwnSpec)

/-- 'fellkeep.LifeSame', WHERE WHAT IT READS IS OF BULK AT MOST 1048576: true; the input reads as it did. -/
def lifeSameUptoRow : OpenClaim := { program := "ytamphgcpfncenaa", sum := "7b31202c13fc9c03e07e9af77936b759631b99fd6530c2806f2d781ddb86d737", func := "fellwalker/fellkeep.LifeSame", spec := "lifeSame", unfollowed := true, recurses := true, plainKeys := false, apart := false, narrowed := true }
def LifeSameUptoSaid : Prop := lifeSameUptoRow.holds Try.pinned (OpenSpec.upto lifeSameSpec)

/-- 'fellkeep.YenOrders', WHERE WHAT IT READS IS OF BULK AT MOST 1048576: true; the input reads as it did. -/
def yenOrdersUptoRow : OpenClaim := { program := "ytamphgcpfncenaa", sum := "7b31202c13fc9c03e07e9af77936b759631b99fd6530c2806f2d781ddb86d737", func := "fellwalker/fellkeep.YenOrders", spec := "yenOrders", unfollowed := true, recurses := true, plainKeys := false, apart := false, narrowed := true }
def YenOrdersUptoSaid : Prop := yenOrdersUptoRow.holds Try.pinned (OpenSpec.upto yenOrdersSpec)

/-- 'fellkeep.YenMore', WHERE WHAT IT READS IS OF BULK AT MOST 1048576: true; the input reads as it did. -/
def yenMoreUptoRow : OpenClaim := { program := "ytamphgcpfncenaa", sum := "7b31202c13fc9c03e07e9af77936b759631b99fd6530c2806f2d781ddb86d737", func := "fellwalker/fellkeep.YenMore", spec := "yenMore", unfollowed := true, recurses := true, plainKeys := false, apart := false, narrowed := true }
def YenMoreUptoSaid : Prop := yenMoreUptoRow.holds Try.pinned (OpenSpec.upto yenMoreSpec)

/-- 'fellkeep.AraOnce', WHERE WHAT IT READS IS OF BULK AT MOST 1048576: true; the input reads as it did. -/
def araOnceUptoRow : OpenClaim := { program := "ytamphgcpfncenaa", sum := "7b31202c13fc9c03e07e9af77936b759631b99fd6530c2806f2d781ddb86d737", func := "fellwalker/fellkeep.AraOnce", spec := "araOnce", unfollowed := true, recurses := true, plainKeys := false, apart := false, narrowed := true }
def AraOnceUptoSaid : Prop := araOnceUptoRow.holds Try.pinned (OpenSpec.upto araOnceSpec)

/-- 'fellkeep.YenWithout', WHERE WHAT IT READS IS OF BULK AT MOST 1048576: true; the input reads as it did. -/
def yenWithoutUptoRow : OpenClaim := { program := "ytamphgcpfncenaa", sum := "7b31202c13fc9c03e07e9af77936b759631b99fd6530c2806f2d781ddb86d737", func := "fellwalker/fellkeep.YenWithout", spec := "yenWithout", unfollowed := true, recurses := true, plainKeys := false, apart := false, narrowed := true }
def YenWithoutUptoSaid : Prop := yenWithoutUptoRow.holds Try.pinned (OpenSpec.upto yenWithoutSpec)

/-- 'fellkeep.AraBound', WHERE WHAT IT READS IS OF BULK AT MOST 1048576: true; the input reads as it did. -/
def araBoundUptoRow : OpenClaim := { program := "ytamphgcpfncenaa", sum := "7b31202c13fc9c03e07e9af77936b759631b99fd6530c2806f2d781ddb86d737", func := "fellwalker/fellkeep.AraBound", spec := "araBound", unfollowed := true, recurses := true, plainKeys := false, apart := false, narrowed := true }
def AraBoundUptoSaid : Prop := araBoundUptoRow.holds Try.pinned (OpenSpec.upto araBoundSpec)

/-- 'fellkeep.AraSlices', WHERE WHAT IT READS IS OF BULK AT MOST 1048576: true; the input reads as it did. -/
def araSlicesUptoRow : OpenClaim := { program := "ytamphgcpfncenaa", sum := "7b31202c13fc9c03e07e9af77936b759631b99fd6530c2806f2d781ddb86d737", func := "fellwalker/fellkeep.AraSlices", spec := "araSlices", unfollowed := true, recurses := true, plainKeys := false, apart := false, narrowed := true }
def AraSlicesUptoSaid : Prop := araSlicesUptoRow.holds Try.pinned (OpenSpec.upto araSlicesSpec)

/-- 'fellkeep.AraOwn', WHERE WHAT IT READS IS OF BULK AT MOST 1048576: true; the input reads as it did. -/
def araOwnUptoRow : OpenClaim := { program := "ytamphgcpfncenaa", sum := "7b31202c13fc9c03e07e9af77936b759631b99fd6530c2806f2d781ddb86d737", func := "fellwalker/fellkeep.AraOwn", spec := "araOwn", unfollowed := true, recurses := true, plainKeys := false, apart := false, narrowed := true }
def AraOwnUptoSaid : Prop := araOwnUptoRow.holds Try.pinned (OpenSpec.upto araOwnSpec)

/-- 'fellkeep.TwinApart', WHERE WHAT IT READS IS OF BULK AT MOST 1048576: true; the input reads as it did. -/
def twinApartUptoRow : OpenClaim := { program := "ytamphgcpfncenaa", sum := "7b31202c13fc9c03e07e9af77936b759631b99fd6530c2806f2d781ddb86d737", func := "fellwalker/fellkeep.TwinApart", spec := "twinApart", unfollowed := true, recurses := true, plainKeys := false, apart := false, narrowed := true }
def TwinApartUptoSaid : Prop := twinApartUptoRow.holds Try.pinned (OpenSpec.upto twinApartSpec)

end Rows
end Go.Proofs.Ytamphgcpfncenaa
