/- The memory of twin.follow. -/
import Derived.Test.YtjhnlkmdkjlkdaaTwinMem
import Derived.Test.YtjhnlkmdkjlkdaaNetTurn
namespace Go.Proofs.Ytjhnlkmdkjlkdaa.Twin
open Go.RowKit Go.Proofs.Ytjhnlkmdkjlkdaa NetLaw BellLaw FlowLaw TwinLaw Go.Proofs.Ytjhnlkmdkjlkdaa.Net Go.Proofs.Ytjhnlkmdkjlkdaa.Std
open Go.Proofs.Ytjhnlkmdkjlkdaa.Flow (cb own_setG own_atG own_madeI own_madeB)
set_option linter.unusedSimpArgs false
set_option linter.unusedVariables false
theorem blk_neT {w : World} {g g' : Nat} {cs cs' : Array Value} {t t' : TypeId} {f f' : Nat × Nat} (h : w.heap[g]? = some (.cells cs t f)) (h' : w.heap[g']? = some (.cells cs' t' f')) (hne : t ≠ t') : g ≠ g' := fun e => by
  subst e
  rw [h] at h'
  injection h' with h'
  injection h' with _ ht _
  exact hne ht
/-- how many edges are used -/
def nub (u : List Bool) : Nat := u.countP id
theorem nub_set {u : List Bool} {i : Nat} (hi : i < u.length) (hb : ub u i = true) : nub (u.set i false) + 1 = nub u := by
  unfold ub at hb
  unfold nub
  induction u generalizing i with
  | nil => exact absurd hi (Nat.not_lt_zero _)
  | cons a r ih =>
    cases i with
    | zero =>
      have : a = true := hb
      subst this
      simp
    | succ i =>
      have h := ih (i := i) (by simpa using hi) (by simpa using hb)
      rw [List.set_cons_succ, List.countP_cons, List.countP_cons]
      omega
/-- within follow -/
structure FW (w0 we w : World) (X R BN n m U : Nat) (A : Option Addr) (c : Nat) (u : List Bool) (Ap : Option Addr) (cp : Nat) (p : List Int) (co : Int) : Prop where
  um : UM w0 w U m u
  path : Own w we.heap.size 3 1 ci (.slice Ap p.length cp) p
  out : w.heap[X]? = some (.cells #[.slice Ap p.length cp, .int .i64 co] 48 (0, 0))
  res : w.heap[R]? = some (.cells #[.slice none 0 0, .int .i64 0] 48 (0, 0))
  net : w.heap[BN]? = some (.cells #[.int .i64 n, .slice A m c] 24 (0, 0))
  b0 : w0.heap.size ≤ we.heap.size
  bX : we.heap.size ≤ X
  xr : X ≠ R
  oth : ∀ g o, we.heap[g]? = some o → g ≠ U → w.heap[g]? = some o
section
variable {w0 we w w' : World} {X R BN n m U c cp : Nat} {A Ap : Option Addr} {u : List Bool} {p : List Int} {co : Int}
theorem FW.keep (h : FW w0 we w X R BN n m U A c u Ap cp p co) (hb : Below w.heap.size w w') : FW w0 we w' X R BN n m U A c u Ap cp p co :=
  ⟨h.um.keep hb, h.path.keep hb, blk_below h.out hb (lt_of_block h.out), blk_below h.res hb (lt_of_block h.res), blk_below h.net hb (lt_of_block h.net), h.b0, h.bX, h.xr, fun g o hg hn => blk_below (h.oth g o hg hn) hb (lt_of_block (h.oth g o hg hn))⟩
theorem FW.alloc (h : FW w0 we w X R BN n m U A c u Ap cp p co) (o : Obj) : FW w0 we (w.alloc o) X R BN n m U A c u Ap cp p co := h.keep ((Below.refl _ _).alloc (Nat.le_refl _) _)
theorem FW.drew1 (h : FW w0 we w X R BN n m U A c u Ap cp p co) : FW w0 we w.drew X R BN n m U A c u Ap cp p co := h.keep (below_drewN (Below.refl _ _) 1)
theorem FW.setU (h : FW w0 we w X R BN n m U A c u Ap cp p co) {k : Nat} (hk : k < m) (b : Bool) : FW w0 we (w.setCell ⟨U, k, none⟩ (.bool b)) X R BN n m U A c (u.set k b) Ap cp p co := by
  obtain ⟨cs, hb⟩ := own_blkT h.um.own
  exact ⟨h.um.set hk b, h.path.setCell (h.path.ne_ hb (by decide)) _, blk_far h.out (blk_neT h.out hb (by decide)) _, blk_far h.res (blk_neT h.res hb (by decide)) _, blk_far h.net (blk_neT h.net hb (by decide)) _, h.b0, h.bX, h.xr, fun g o hg hn => blk_far (h.oth g o hg hn) hn _⟩
theorem FW.setCo (h : FW w0 we w X R BN n m U A c u Ap cp p co) (x : Int) : FW w0 we (w.setCell ⟨X, 1, none⟩ (.int .i64 x)) X R BN n m U A c u Ap cp p x :=
  ⟨⟨h.um.own.setCell (h.um.own.ne_ h.out (by decide)) _, h.um.len, h.um.lo.setCell (Nat.le_trans h.b0 h.bX) _⟩, h.path.setCell (h.path.ne_ h.out (by decide)) _, blk_set h.out 1 _, blk_far h.res (fun e => h.xr e.symm) _, blk_far h.net (blk_neT h.net h.out (by decide)) _, h.b0, h.bX, h.xr, fun g o hg hn => blk_far (h.oth g o hg hn) (by have := lt_of_block hg; have := h.bX; dsimp only; omega) _⟩
/-- the path grown, and laid back into its place -/
theorem FW.push (h : FW w0 we w X R BN n m U A c u Ap cp p co) {A' : Option Addr} {c' : Nat} {x : Int} (hg' : w.grownBy w' (Value.slice Ap p.length cp).ownBlock) (ho : Own w' we.heap.size 3 1 ci (.slice A' (p.length + 1) c') (p ++ [x])) :
    FW w0 we (w'.setCell ⟨X, 0, none⟩ (.slice A' (p.length + 1) c')) X R BN n m U A c u A' c' (p ++ [x]) co := by
  obtain ⟨cs, hb⟩ := own_blkT h.um.own
  have hsz : w0.heap.size ≤ w.heap.size := h.um.lo.size
  have hown := h.um.own.kept hg' (.inr fun e => (h.path.ne_ hb (by decide)) (by rw [← e]; rfl))
  have hout := blk_grown h.out hg' (h.path.ne_ h.out (by decide))
  have hres := blk_grown h.res hg' (h.path.ne_ h.res (by decide))
  have hnet := blk_grown h.net hg' (h.path.ne_ h.net (by decide))
  have hlo := h.um.lo.grown hg' hsz (fun g hg => Nat.le_trans h.b0 (h.path.base_ g hg).1)
  rw [show p.length + 1 = (p ++ [x]).length by simp] at ho
  refine ⟨⟨hown.setCell (hown.ne_ hout (by decide)) _, h.um.len, hlo.setCell (Nat.le_trans h.b0 h.bX) _⟩, ho.setCell (ho.ne_ hout (by decide)) _, ?_, blk_far hres (fun e => h.xr e.symm) _, blk_far hnet (blk_neT hnet hout (by decide)) _, h.b0, h.bX, h.xr, fun g o hg hn => blk_far (blk_grown (h.oth g o hg hn) hg' fun e => ?_) (by have := lt_of_block hg; have := h.bX; dsimp only; omega) _⟩
  rotate_left
  · have h1 := (h.path.base_ g e).1
    have h2 := lt_of_block hg
    omega
  have := blk_set hout 0 (.slice A' (p.length + 1) c')
  rw [show (p ++ [x]).length = p.length + 1 by simp]
  exact this
end
end Go.Proofs.Ytjhnlkmdkjlkdaa.Twin
