/- The walks of net.Turned and net.Turn. -/
import Derived.Test.YtjebckehmmbkbaaVWalkWalks
namespace Go.Proofs.Ytjebckehmmbkbaa.Net
open Go.RowKit Go.Proofs.Ytjebckehmmbkbaa NetLaw
set_option linter.unusedSimpArgs false
set_option linter.unusedVariables false

theorem blk_set {w : World} {g : Nat} {t : TypeId} {cs : Array Value} (h : w.heap[g]? = some (.cells cs t (0, 0))) (i : Nat) (u : Value) : (w.setCell ⟨g, i, none⟩ u).heap[g]? = some (.cells (cs.setIfInBounds i u) t (0, 0)) := by
  simp [World.setCell, Array.getElem?_modify, h]
theorem blk_cell {w : World} {g : Nat} {t : TypeId} {cs : Array Value} (h : w.heap[g]? = some (.cells cs t (0, 0))) (i : Nat) : w.cell? ⟨g, i, none⟩ = cs[i]? := cell_of_row w g i cs t (0, 0) h
theorem blk_free {w : World} {g : Nat} {t : TypeId} {cs : Array Value} (h : w.heap[g]? = some (.cells cs t (0, 0))) (i : Nat) : w.frozen? ⟨g, i, none⟩ = false := by simp [World.frozen?, h]

theorem blk_alloc {w : World} {g : Nat} {o : Obj} (h : w.heap[g]? = some o) (o' : Obj) : (w.alloc o').heap[g]? = some o := (Below.heap_alloc _ _ _ (lt_of_block h)).trans h
theorem blk_grown {w w1 : World} {g : Nat} {o : Obj} {row : Option Nat} (h : w.heap[g]? = some o) (hg : w.grownBy w1 row) (hne : row ≠ some g) : w1.heap[g]? = some o := (hg.block g (lt_of_block h) (fun e => hne e.symm)).trans h
theorem blk_far {w : World} {g : Nat} {o : Obj} (h : w.heap[g]? = some o) {p : Addr} (hne : g ≠ p.block) (u : Value) : (w.setCell p u).heap[g]? = some o := (Below.heap_setCell _ _ _ _ hne).trans h
theorem blk_below {w w1 : World} {g B : Nat} {o : Obj} (h : w.heap[g]? = some o) (hb : Below B w w1) (hB : g < B) : w1.heap[g]? = some o := (hb.block g hB).trans h
theorem news3' {w : World} {e : TypeId} {x y z : Int} {g : Nat} (hg : w.heap.size = g) : ∀ j, j < 3 → (w.alloc (.cells #[.int .i64 x, .int .i64 y, .int .i64 z] e)).cell? ⟨g, j, none⟩ = some (ce (x, y, z) j) := by
  subst hg
  exact news3
/-- the edges turned -/
def tl (l : List E) : List E := l.map fun e => (e.2.1, e.1, e.2.2)
theorem tl_len (l : List E) : (tl l).length = l.length := by simp [tl]
theorem tl_succ {l : List E} {k : Nat} (h : k < l.length) {f t c : Int} (he : l[k] = (f, t, c)) : tl (l.take (k + 1)) = tl (l.take k) ++ [(t, f, c)] := by
  rw [List.take_succ_eq_append_getElem h, he]
  simp [tl]
theorem infoEdge : (Try.prog.info? 48).map (fun i => (i.zero, i.size, i.bytes)) = some (some (.agg #[.int .i64 0, .int .i64 0, .int .i64 0]), 3, 24) := by kernel_rfl
/-- a net that a call answers, its edges the call's own -/
def SomeNet (N : Int) (l : List E) (w : World) (e : Ending) (w' : World) : Prop :=
  ∃ A c, e = .returned (.agg #[.int .i64 N, .slice A l.length c]) ∧ Own w' w.heap.size 48 3 ce (.slice A l.length c) l ∧ Below w.heap.size w w'

/-- what Turn answers of a right net -/
def SomeTurn (N : Int) (l : List E) (w : World) (e : Ending) (w' : World) : Prop :=
  ∃ A c, e = .returned (.tuple #[.agg #[.int .i64 N, .slice A l.length c], .int .i64 0]) ∧ Own w' w.heap.size 48 3 ce (.slice A l.length c) l ∧ Below w.heap.size w w'

end Go.Proofs.Ytjebckehmmbkbaa.Net
