/- The walk of floyd.closed with the closures of floyd.All. -/
import Derived.Test.YtlcgkbkmfelcfaaMat
import Derived.Test.YtlcgkbkmfelcfaaSink
import Derived.StillTailTactics
import Derived.Outline
import Derived.Deep.OwnRows
import Derived.BigRegion
import Derived.BigQuiet
import Derived.Deep.CutRange
import Derived.Deep.RegionHeld3
namespace Go.Proofs.Ytlcgkbkmfelcfaa.FloydAll
open Go.RowKit Go.Proofs.Ytlcgkbkmfelcfaa NetLaw BellLaw FloydLaw Go.Proofs.Ytlcgkbkmfelcfaa.Net Go.Proofs.Ytlcgkbkmfelcfaa.Mat
set_option linter.unusedSimpArgs false
set_option linter.unusedVariables false
def q (z : Int) : Value := (.int .i64 z)

section
variable {w wr wx : World} {n : Nat} {A : Option Addr} {c : Nat} {l : List E} {m : Nat} {F : Nat → Nat} {M M' : Mx Int}
end
theorem eds_take {l : List E} {k : Nat} (h : k < l.length) (M : Mx Int) : eds min cst (l.take (k + 1)) M = ed1 min cst (eds min cst (l.take k) M) l[k] := by
  rw [List.take_succ_eq_append_getElem h]
  unfold eds
  rw [List.foldl_append]
  rfl
theorem rng_all {n : Nat} {l : List E} (hg : NetLaw.Good n l) (k i j : Nat) : Rng (inn min th k i (mid min th n k (out min th n (eds min cst l (ini far 0)) k) i) j) :=
  inn_ind min th (n := n) (P := Rng) (fun _ _ _ h => stp_rng h) (mid_ind min th (P := Rng) (fun _ _ _ h => stp_rng h) (out_rng (start_rng hg)) i) j

end Go.Proofs.Ytlcgkbkmfelcfaa.FloydAll
