/- The walks of BellTight's closure and of slices.ContainsFunc with it. -/
import Derived.Test.YtbgkkmcobijkgaaBellWalks
namespace Go.Proofs.Ytbgkkmcobijkgaa.Bell
open Go.RowKit Go.Proofs.Ytbgkkmcobijkgaa NetLaw BellLaw Go.Proofs.Ytbgkkmcobijkgaa.Net Go.Proofs.Ytbgkkmcobijkgaa.Std
set_option linter.unusedSimpArgs false
set_option linter.unusedVariables false

/-- the edge that the closure looks for -/
def Into (D : List Int) (v co : Int) (e : E) : Prop := e.2.1 = v ∧ dg D e.1 < far ∧ dg D e.1 + e.2.2 = co
/-- what the closure has caught -/
structure Caught (w : World) (gv gl gc S n : Nat) (D : List Int) (v co : Int) : Prop where
  v : w.cell? ⟨gv, 0, none⟩ = some (.int .i64 v)
  l : w.cell? ⟨gl, 0, none⟩ = some (.slice (some ⟨S, 0, none⟩) n n)
  c : w.cell? ⟨gc, 0, none⟩ = some (.int .i64 co)
  d : ∀ f, f < n → w.cell? ⟨S, f, none⟩ = some (.int .i64 (D.getD f 0))
  sv : gv < w.heap.size
  sl : gl < w.heap.size
  sc : gc < w.heap.size
  ss : S < w.heap.size
theorem Caught.keep {w w' : World} {gv gl gc S n : Nat} {D : List Int} {v co : Int} (h : Caught w gv gl gc S n D v co) (hb : Below w.heap.size w w') : Caught w' gv gl gc S n D v co := by
  obtain ⟨c1, _⟩ := keepN hb
  have hs := hb.size
  exact ⟨(c1 _ _ h.sv).trans h.v, (c1 _ _ h.sl).trans h.l, (c1 _ _ h.sc).trans h.c, fun f hf => (c1 _ _ h.ss).trans (h.d f hf), Nat.lt_of_lt_of_le h.sv hs, Nat.lt_of_lt_of_le h.sl hs, Nat.lt_of_lt_of_le h.sc hs, Nat.lt_of_lt_of_le h.ss hs⟩

end Go.Proofs.Ytbgkkmcobijkgaa.Bell
