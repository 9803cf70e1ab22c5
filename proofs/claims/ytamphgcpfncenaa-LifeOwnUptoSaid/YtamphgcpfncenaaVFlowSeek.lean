/- The walk of flow.seek. -/
import Derived.Test.YtamphgcpfncenaaVFlowMem
import Derived.Deep.RegionHeld3
import Derived.BigRegion
import Derived.BigQuiet
import Derived.Deep.LoopGhost
import Derived.Deep.CutRange
namespace Go.Proofs.Ytamphgcpfncenaa.Flow
open Go.RowKit Go.Proofs.Ytamphgcpfncenaa NetLaw FlowLaw FlowBfs Go.Proofs.Ytamphgcpfncenaa.Net Go.Proofs.Ytamphgcpfncenaa.Std Go.Proofs.Ytamphgcpfncenaa.Queue
set_option linter.unusedSimpArgs false
set_option linter.unusedVariables false
theorem infoIntF : (Try.prog.info? 3).map (fun i => (i.zero, i.size, i.bytes)) = some (some (.int .i64 0), 1, 8) := by kernel_rfl
def SeekSays (n : Nat) (l : List E) (F : List Int) (s : Nat) (w : World) (e : Ending) (w' : World) : Prop :=
  ∃ S B od, e = .returned (.slice (some ⟨S, 0, none⟩) n n) ∧ Own w' w.heap.size 3 1 ci (.slice (some ⟨S, 0, none⟩) n n) B ∧ Hid (Sk n l F s B od) ∧ Below w.heap.size w w'

end Go.Proofs.Ytamphgcpfncenaa.Flow
