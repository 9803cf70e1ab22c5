/- The memory of twin.carry: who lies where, and what each write leaves as it was. -/
/- The memory of twin.follow. -/
import Derived.Test.YtjebckehmmbkbaaVGridOver
import Derived.Test.YtjebckehmmbkbaaVFlowMem
import Derived.Test.YtjebckehmmbkbaaVRowSet
import Derived.BigRegion
import Derived.BigQuiet
import Derived.Test.YtjebckehmmbkbaaVNetTurn
namespace Go.Proofs.Ytjebckehmmbkbaa.Twin
open Go.RowKit Go.Proofs.Ytjebckehmmbkbaa NetLaw BellLaw FlowLaw TwinLaw Go.Proofs.Ytjebckehmmbkbaa.Net Go.Proofs.Ytjebckehmmbkbaa.Std
open Go.Proofs.Ytjebckehmmbkbaa.Flow (cb own_setG own_atG own_madeI own_madeB)
set_option linter.unusedSimpArgs false
set_option linter.unusedVariables false
abbrev A4 := Int × Int × Int × Int
def c4 (e : A4) (j : Nat) : Value := match j with | 0 => .int .i64 e.1 | 1 => .int .i64 e.2.1 | 2 => .int .i64 e.2.2.1 | _ => .int .i64 e.2.2.2
theorem one_c4 (x : A4) (j : Nat) : (c4 x j).oneCell' = true := by unfold c4; split <;> rfl
theorem news4 {w : World} {e : TypeId} {x y z k : Int} {g : Nat} (hg : w.heap.size = g) : ∀ j, j < 4 → (w.alloc (.cells #[.int .i64 x, .int .i64 y, .int .i64 z, .int .i64 k] e)).cell? ⟨g, j, none⟩ = some (c4 (x, y, z, k) j) := by
  subst hg
  intro j hj
  rw [cell_new]
  match j, hj with
  | 0, _ => rfl
  | 1, _ => rfl
  | 2, _ => rfl
  | 3, _ => rfl
/-- the arcs, in order -/
def arl (l : List E) (u : List Bool) : List A4 := (List.range l.length).map fun i => (af l u i, at_ l u i, ac l u i, (i : Int))
theorem arl_len (l : List E) (u : List Bool) : (arl l u).length = l.length := by simp [arl]
theorem arl_get {l : List E} {u : List Bool} {k : Nat} (h : k < (arl l u).length) : (arl l u)[k] = (af l u k, at_ l u k, ac l u k, (k : Int)) := by simp [arl]
theorem own_blkT {α : Type} {w : World} {b : Nat} {e : TypeId} {sz : Nat} {cell : α → Nat → Value} {S n c : Nat} {l : List α} (h : Own w b e sz cell (.slice (some ⟨S, 0, none⟩) n c) l) : ∃ cs, w.heap[S]? = some (.cells cs e (0, 0)) := by
  rcases h.2 with ⟨h1, _⟩ | ⟨g, cap, cur, hv, _, hh, _⟩
  · cases h1
  · injection hv with hv _ _
    injection hv with hv
    injection hv with hv _ _
    subst hv
    exact ⟨cur, hh⟩
/-- an arc's four cells -/
theorem own_at4 {w : World} {base : Nat} {e : TypeId} {A : Option Addr} {n c : Nat} {l : List A4} (hn : l.length = n) (h : Own w base e 4 c4 (.slice A n c) l) {k : Nat} (hk : k < l.length) :
    ∃ S, A = some ⟨S, 0, none⟩ ∧ S < w.heap.size ∧ w.cell? ⟨S, k * 4, none⟩ = some (.int .i64 (l[k]).1) ∧ w.cell? ⟨S, k * 4 + 1, none⟩ = some (.int .i64 (l[k]).2.1) ∧ w.cell? ⟨S, k * 4 + 2, none⟩ = some (.int .i64 (l[k]).2.2.1) ∧ w.cell? ⟨S, k * 4 + 3, none⟩ = some (.int .i64 (l[k]).2.2.2) := by
  subst hn
  obtain ⟨S, c', hv, hb, hS, _, hc⟩ := h.some_ (by omega)
  injection hv with hv _ _
  exact ⟨S, hv, hS, (hc k hk 0 (by omega)).1, (hc k hk 1 (by omega)).1, (hc k hk 2 (by omega)).1, (hc k hk 3 (by omega)).1⟩
/-- the used edges' row, of the caller's own -/
structure UM (w0 w : World) (U : Nat) (m : Nat) (u : List Bool) : Prop where
  own : Own w w0.heap.size 4 1 cb (.slice (some ⟨U, 0, none⟩) m m) u
  len : u.length = m
  lo : Below w0.heap.size w0 w
/-- within carry -/
structure CA (w0 w : World) (b1 n m U SD SP : Nat) (Aa : Option Addr) (ma ca : Nat) (u : List Bool) (ar : List A4) (D P : List Int) : Prop where
  um : UM w0 w U m u
  arcs : Own w b1 72 4 c4 (.slice Aa ma ca) ar
  al : ar.length = ma
  dist : Own w b1 3 1 ci (.slice (some ⟨SD, 0, none⟩) n n) D
  pred : Own w b1 3 1 ci (.slice (some ⟨SP, 0, none⟩) n n) P
  dl : D.length = n
  pl : P.length = n
  ne : SD ≠ SP
  b0 : w0.heap.size ≤ b1
section
variable {w0 w w' : World} {b1 n m U SD SP ma ca : Nat} {Aa : Option Addr} {u : List Bool} {ar : List A4} {D P : List Int}
theorem UM.keep (h : UM w0 w U m u) (hb : Below w.heap.size w w') : UM w0 w' U m u := ⟨h.own.keep hb, h.len, h.lo.trans (hb.mono h.lo.size)⟩
theorem UM.set (h : UM w0 w U m u) {k : Nat} (hk : k < m) (b : Bool) : UM w0 (w.setCell ⟨U, k, none⟩ (.bool b)) U m (u.set k b) :=
  ⟨own_setG (cell := cb) h.len h.own k hk b, by rw [List.length_set]; exact h.len, h.lo.setCell (h.own.base_ U rfl).1 _⟩
theorem UM.at1 (h : UM w0 w U m u) {k : Nat} (hk : k < m) : w.cell? ⟨U, k, none⟩ = some (.bool (ub u k)) ∧ w.frozen? ⟨U, k, none⟩ = false := own_atG false h.len h.own hk
theorem CA.keep (h : CA w0 w b1 n m U SD SP Aa ma ca u ar D P) (hb : Below w.heap.size w w') : CA w0 w' b1 n m U SD SP Aa ma ca u ar D P :=
  ⟨h.um.keep hb, h.arcs.keep hb, h.al, h.dist.keep hb, h.pred.keep hb, h.dl, h.pl, h.ne, h.b0⟩
theorem CA.alloc (h : CA w0 w b1 n m U SD SP Aa ma ca u ar D P) (o : Obj) : CA w0 (w.alloc o) b1 n m U SD SP Aa ma ca u ar D P := h.keep ((Below.refl _ _).alloc (Nat.le_refl _) _)
theorem CA.drewN (h : CA w0 w b1 n m U SD SP Aa ma ca u ar D P) (k : Nat) : CA w0 (w.drewN k) b1 n m U SD SP Aa ma ca u ar D P := h.keep (below_drewN (Below.refl _ _) k)
theorem CA.drew1 (h : CA w0 w b1 n m U SD SP Aa ma ca u ar D P) : CA w0 w.drew b1 n m U SD SP Aa ma ca u ar D P := h.drewN 1
theorem CA.setD (h : CA w0 w b1 n m U SD SP Aa ma ca u ar D P) (k : Nat) (x : Int) : CA w0 (w.setCell ⟨SD, k, none⟩ (.int .i64 x)) b1 n m U SD SP Aa ma ca u ar (D.set k x) P := by
  obtain ⟨cs, hb⟩ := own_blkT h.dist
  have hs := h.dist.base_ SD rfl
  have hne := h.ne
  exact ⟨⟨h.um.own.setCell (h.um.own.ne_ hb (by decide)) _, h.um.len, h.um.lo.setCell (Nat.le_trans h.b0 hs.1) _⟩, h.arcs.setCell (h.arcs.ne_ hb (by decide)) _, h.al, own_set1 h.dl h.dist k x, h.pred.setCell (fun e => hne (by injection e with e; exact e.symm)) _, by rw [List.length_set]; exact h.dl, h.pl, h.ne, h.b0⟩
theorem CA.setP (h : CA w0 w b1 n m U SD SP Aa ma ca u ar D P) (k : Nat) (x : Int) : CA w0 (w.setCell ⟨SP, k, none⟩ (.int .i64 x)) b1 n m U SD SP Aa ma ca u ar D (P.set k x) := by
  obtain ⟨cs, hb⟩ := own_blkT h.pred
  have hs := h.pred.base_ SP rfl
  have hne := h.ne
  exact ⟨⟨h.um.own.setCell (h.um.own.ne_ hb (by decide)) _, h.um.len, h.um.lo.setCell (Nat.le_trans h.b0 hs.1) _⟩, h.arcs.setCell (h.arcs.ne_ hb (by decide)) _, h.al, h.dist.setCell (fun e => hne (by injection e with e)) _, own_set1 h.pl h.pred k x, h.dl, by rw [List.length_set]; exact h.pl, h.ne, h.b0⟩
theorem CA.setU (h : CA w0 w b1 n m U SD SP Aa ma ca u ar D P) {k : Nat} (hk : k < m) (b : Bool) : CA w0 (w.setCell ⟨U, k, none⟩ (.bool b)) b1 n m U SD SP Aa ma ca (u.set k b) ar D P := by
  obtain ⟨cs, hb⟩ := own_blkT h.um.own
  exact ⟨h.um.set hk b, h.arcs.setCell (h.arcs.ne_ hb (by decide)) _, h.al, h.dist.setCell (h.dist.ne_ hb (by decide)) _, h.pred.setCell (h.pred.ne_ hb (by decide)) _, h.dl, h.pl, h.ne, h.b0⟩
end
end Go.Proofs.Ytjebckehmmbkbaa.Twin

namespace Go.Proofs.Ytjebckehmmbkbaa.Twin
open Go.RowKit Go.Proofs.Ytjebckehmmbkbaa NetLaw BellLaw FlowLaw TwinLaw Go.Proofs.Ytjebckehmmbkbaa.Net Go.Proofs.Ytjebckehmmbkbaa.Std
open Go.Proofs.Ytjebckehmmbkbaa.Flow (cb own_setG own_atG own_madeI own_madeB)
set_option linter.unusedSimpArgs false
set_option linter.unusedVariables false
theorem blk_neT {w : World} {g g' : Nat} {cs cs' : Array Value} {t t' : TypeId} {f f' : Nat × Nat} (h : w.heap[g]? = some (.cells cs t f)) (h' : w.heap[g']? = some (.cells cs' t' f')) (hne : t ≠ t') : g ≠ g' := fun e => by
  subst e
  rw [h] at h'
  injection h' with h'
  injection h' with _ ht _
  exact hne ht
/-- how many edges are used -/
def nub (u : List Bool) : Nat := u.countP id
theorem nub_set {u : List Bool} {i : Nat} (hi : i < u.length) (hb : ub u i = true) : nub (u.set i false) + 1 = nub u := by
  unfold ub at hb
  unfold nub
  induction u generalizing i with
  | nil => exact absurd hi (Nat.not_lt_zero _)
  | cons a r ih =>
    cases i with
    | zero =>
      have : a = true := hb
      subst this
      simp
    | succ i =>
      have h := ih (i := i) (by simpa using hi) (by simpa using hb)
      rw [List.set_cons_succ, List.countP_cons, List.countP_cons]
      omega
/-- within follow -/
structure FW (w0 we w : World) (X R BN n m U : Nat) (A : Option Addr) (c : Nat) (u : List Bool) (Ap : Option Addr) (cp : Nat) (p : List Int) (co : Int) : Prop where
  um : UM w0 w U m u
  path : Own w we.heap.size 3 1 ci (.slice Ap p.length cp) p
  out : w.heap[X]? = some (.cells #[.slice Ap p.length cp, .int .i64 co] 31 (0, 0))
  res : w.heap[R]? = some (.cells #[.slice none 0 0, .int .i64 0] 31 (0, 0))
  net : w.heap[BN]? = some (.cells #[.int .i64 n, .slice A m c] 24 (0, 0))
  b0 : w0.heap.size ≤ we.heap.size
  bX : we.heap.size ≤ X
  xr : X ≠ R
  oth : ∀ g o, we.heap[g]? = some o → g ≠ U → w.heap[g]? = some o
section
variable {w0 we w w' : World} {X R BN n m U c cp : Nat} {A Ap : Option Addr} {u : List Bool} {p : List Int} {co : Int}
theorem FW.keep (h : FW w0 we w X R BN n m U A c u Ap cp p co) (hb : Below w.heap.size w w') : FW w0 we w' X R BN n m U A c u Ap cp p co :=
  ⟨h.um.keep hb, h.path.keep hb, blk_below h.out hb (lt_of_block h.out), blk_below h.res hb (lt_of_block h.res), blk_below h.net hb (lt_of_block h.net), h.b0, h.bX, h.xr, fun g o hg hn => blk_below (h.oth g o hg hn) hb (lt_of_block (h.oth g o hg hn))⟩
theorem FW.alloc (h : FW w0 we w X R BN n m U A c u Ap cp p co) (o : Obj) : FW w0 we (w.alloc o) X R BN n m U A c u Ap cp p co := h.keep ((Below.refl _ _).alloc (Nat.le_refl _) _)
theorem FW.drew1 (h : FW w0 we w X R BN n m U A c u Ap cp p co) : FW w0 we w.drew X R BN n m U A c u Ap cp p co := h.keep (below_drewN (Below.refl _ _) 1)
theorem FW.setU (h : FW w0 we w X R BN n m U A c u Ap cp p co) {k : Nat} (hk : k < m) (b : Bool) : FW w0 we (w.setCell ⟨U, k, none⟩ (.bool b)) X R BN n m U A c (u.set k b) Ap cp p co := by
  obtain ⟨cs, hb⟩ := own_blkT h.um.own
  exact ⟨h.um.set hk b, h.path.setCell (h.path.ne_ hb (by decide)) _, blk_far h.out (blk_neT h.out hb (by decide)) _, blk_far h.res (blk_neT h.res hb (by decide)) _, blk_far h.net (blk_neT h.net hb (by decide)) _, h.b0, h.bX, h.xr, fun g o hg hn => blk_far (h.oth g o hg hn) hn _⟩
theorem FW.setCo (h : FW w0 we w X R BN n m U A c u Ap cp p co) (x : Int) : FW w0 we (w.setCell ⟨X, 1, none⟩ (.int .i64 x)) X R BN n m U A c u Ap cp p x :=
  ⟨⟨h.um.own.setCell (h.um.own.ne_ h.out (by decide)) _, h.um.len, h.um.lo.setCell (Nat.le_trans h.b0 h.bX) _⟩, h.path.setCell (h.path.ne_ h.out (by decide)) _, blk_set h.out 1 _, blk_far h.res (fun e => h.xr e.symm) _, blk_far h.net (blk_neT h.net h.out (by decide)) _, h.b0, h.bX, h.xr, fun g o hg hn => blk_far (h.oth g o hg hn) (by have := lt_of_block hg; have := h.bX; dsimp only; omega) _⟩
/-- the path grown, and laid back into its place -/
theorem FW.push (h : FW w0 we w X R BN n m U A c u Ap cp p co) {A' : Option Addr} {c' : Nat} {x : Int} (hg' : w.grownBy w' (Value.slice Ap p.length cp).ownBlock) (ho : Own w' we.heap.size 3 1 ci (.slice A' (p.length + 1) c') (p ++ [x])) :
    FW w0 we (w'.setCell ⟨X, 0, none⟩ (.slice A' (p.length + 1) c')) X R BN n m U A c u A' c' (p ++ [x]) co := by
  obtain ⟨cs, hb⟩ := own_blkT h.um.own
  have hsz : w0.heap.size ≤ w.heap.size := h.um.lo.size
  have hown := h.um.own.kept hg' (.inr fun e => (h.path.ne_ hb (by decide)) (by rw [← e]; rfl))
  have hout := blk_grown h.out hg' (h.path.ne_ h.out (by decide))
  have hres := blk_grown h.res hg' (h.path.ne_ h.res (by decide))
  have hnet := blk_grown h.net hg' (h.path.ne_ h.net (by decide))
  have hlo := h.um.lo.grown hg' hsz (fun g hg => Nat.le_trans h.b0 (h.path.base_ g hg).1)
  rw [show p.length + 1 = (p ++ [x]).length by simp] at ho
  refine ⟨⟨hown.setCell (hown.ne_ hout (by decide)) _, h.um.len, hlo.setCell (Nat.le_trans h.b0 h.bX) _⟩, ho.setCell (ho.ne_ hout (by decide)) _, ?_, blk_far hres (fun e => h.xr e.symm) _, blk_far hnet (blk_neT hnet hout (by decide)) _, h.b0, h.bX, h.xr, fun g o hg hn => blk_far (blk_grown (h.oth g o hg hn) hg' fun e => ?_) (by have := lt_of_block hg; have := h.bX; dsimp only; omega) _⟩
  rotate_left
  · have h1 := (h.path.base_ g e).1
    have h2 := lt_of_block hg
    omega
  have := blk_set hout 0 (.slice A' (p.length + 1) c')
  rw [show (p ++ [x]).length = p.length + 1 by simp]
  exact this
end
end Go.Proofs.Ytjebckehmmbkbaa.Twin
