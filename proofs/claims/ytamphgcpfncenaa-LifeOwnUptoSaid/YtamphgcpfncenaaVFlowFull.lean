/- The walk of flow.full. -/
import Derived.Test.YtamphgcpfncenaaVFlowSeek
import Derived.Test.YtamphgcpfncenaaVFlowPush
import Derived.BigQuiet
import Derived.Deep.LoopGhost
namespace Go.Proofs.Ytamphgcpfncenaa.Flow
open Go.RowKit Go.Proofs.Ytamphgcpfncenaa NetLaw FlowLaw FlowBfs Go.Proofs.Ytamphgcpfncenaa.Net Go.Proofs.Ytamphgcpfncenaa.Std Go.Proofs.Ytamphgcpfncenaa.Queue
set_option linter.unusedSimpArgs false
set_option linter.unusedVariables false
def FullSays (n : Nat) (l : List E) (s t : Nat) (w : World) (e : Ending) (w' : World) : Prop :=
  ∃ v Sf Sb F B od, e = .returned (.tuple #[.int .i64 v, .slice (some ⟨Sf, 0, none⟩) l.length l.length, .slice (some ⟨Sb, 0, none⟩) n n]) ∧ Own w' w.heap.size 3 1 ci (.slice (some ⟨Sf, 0, none⟩) l.length l.length) F ∧ Own w' w.heap.size 3 1 ci (.slice (some ⟨Sb, 0, none⟩) n n) B ∧ Hid (Fw l s t F v ∧ Sk n l F s B od ∧ (t : Int) ∉ od) ∧ Below w.heap.size w w'

end Go.Proofs.Ytamphgcpfncenaa.Flow
