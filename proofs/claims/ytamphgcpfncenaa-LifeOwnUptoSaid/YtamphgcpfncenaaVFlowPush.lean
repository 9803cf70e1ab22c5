/- The walk of flow.push. -/
import Derived.Test.YtamphgcpfncenaaVFlowMem
import Derived.BigRegion
import Derived.BigQuiet
import Derived.Deep.LoopGhost
namespace Go.Proofs.Ytamphgcpfncenaa.Flow
open Go.RowKit Go.Proofs.Ytamphgcpfncenaa NetLaw FlowLaw FlowBfs Go.Proofs.Ytamphgcpfncenaa.Net Go.Proofs.Ytamphgcpfncenaa.Std Go.Proofs.Ytamphgcpfncenaa.Queue
set_option linter.unusedSimpArgs false
set_option linter.unusedVariables false
structure PsM (w wr : World) (Sf L : Nat) (G : List Int) : Prop where
  own : Own wr Sf 3 1 ci (.slice (some ⟨Sf, 0, none⟩) L L) G
  len : G.length = L
  keep : ∀ p : Addr, p.block < w.heap.size → p.block ≠ Sf → wr.cell? p = w.cell? p
  lo : Below Sf w wr
  z : w.heap.size ≤ wr.heap.size
theorem PsM.drewN {w wr : World} {Sf L : Nat} {G : List Int} (h : PsM w wr Sf L G) (k : Nat) : PsM w (wr.drewN k) Sf L G :=
  ⟨h.own.drewN k, h.len, fun p h1 h2 => h.keep p h1 h2, below_drewN h.lo k, h.z⟩
theorem PsM.set {w wr : World} {Sf L : Nat} {G : List Int} (h : PsM w wr Sf L G) (i : Nat) (x : Int) : PsM w (wr.setCell ⟨Sf, i, none⟩ (.int .i64 x)) Sf L (G.set i x) :=
  ⟨own_set1 h.len h.own i x, by rw [List.length_set]; exact h.len, fun p h1 h2 => by
    rw [World.cell?_setCell_other _ _ _ _ (fun e => h2 (by rw [← e]))]
    exact h.keep p h1 h2, h.lo.setCell (Nat.le_refl _) _, by simpa [World.setCell] using h.z⟩
theorem Via.rng {n : Nat} {l : List E} {F : List Int} {b v : Int} (hg : NetLaw.Good n l) (h : Via l F b v) : 0 ≤ prv l b ∧ prv l b < n := by
  obtain ⟨a, _, _⟩ := h
  unfold ix at a
  unfold prv
  split
  · rename_i h0
    rw [if_pos h0] at a
    have := hg.ends _ (ed_mem a)
    exact ⟨this.1, this.2.1⟩
  · rename_i h0
    rw [if_neg h0] at a
    have := hg.ends _ (ed_mem a)
    exact ⟨this.2.2.1, this.2.2.2⟩

theorem Pth.inv {l : List E} {F B rest : List Int} {s v : Int} (h : Pth l F B s v rest) : (v = s ∧ rest = []) ∨ ∃ r, rest = B.getD v.toNat 0 :: r ∧ v ≠ s ∧ Via l F (B.getD v.toNat 0) v ∧ Pth l F B s (prv l (B.getD v.toNat 0)) r := by
  cases h with
  | nil => exact .inl ⟨rfl, rfl⟩
  | cons h1 h2 h3 => exact .inr ⟨_, rfl, h1, h2, h3⟩
theorem wrap_in {x : Int} (h1 : -9223372036854775808 ≤ x) (h2 : x ≤ 9223372036854775807) : IntKind.i64.wrap x = x := by simp [IntKind.wrap, IntKind.bits, IntKind.signed]; omega

end Go.Proofs.Ytamphgcpfncenaa.Flow
