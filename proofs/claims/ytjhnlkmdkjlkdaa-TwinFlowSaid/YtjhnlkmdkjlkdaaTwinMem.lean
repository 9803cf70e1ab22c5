/- The memory of twin.carry: who lies where, and what each write leaves as it was. -/
import Derived.Test.YtjhnlkmdkjlkdaaTwinEnd
import Derived.Test.YtjhnlkmdkjlkdaaFlowMem
import Derived.Test.YtjhnlkmdkjlkdaaStdR
import Derived.Test.YtjhnlkmdkjlkdaaRowSet
import Derived.BigRegion
import Derived.BigQuiet
namespace Go.Proofs.Ytjhnlkmdkjlkdaa.Twin
open Go.RowKit Go.Proofs.Ytjhnlkmdkjlkdaa NetLaw BellLaw FlowLaw TwinLaw Go.Proofs.Ytjhnlkmdkjlkdaa.Net Go.Proofs.Ytjhnlkmdkjlkdaa.Std
open Go.Proofs.Ytjhnlkmdkjlkdaa.Flow (cb own_setG own_atG own_madeI own_madeB)
set_option linter.unusedSimpArgs false
set_option linter.unusedVariables false
abbrev A4 := Int × Int × Int × Int
def c4 (e : A4) (j : Nat) : Value := match j with | 0 => .int .i64 e.1 | 1 => .int .i64 e.2.1 | 2 => .int .i64 e.2.2.1 | _ => .int .i64 e.2.2.2
theorem one_c4 (x : A4) (j : Nat) : (c4 x j).oneCell' = true := by unfold c4; split <;> rfl
theorem news4 {w : World} {e : TypeId} {x y z k : Int} {g : Nat} (hg : w.heap.size = g) : ∀ j, j < 4 → (w.alloc (.cells #[.int .i64 x, .int .i64 y, .int .i64 z, .int .i64 k] e)).cell? ⟨g, j, none⟩ = some (c4 (x, y, z, k) j) := by
  subst hg
  intro j hj
  rw [cell_new]
  match j, hj with
  | 0, _ => rfl
  | 1, _ => rfl
  | 2, _ => rfl
  | 3, _ => rfl
/-- the arcs, in order -/
def arl (l : List E) (u : List Bool) : List A4 := (List.range l.length).map fun i => (af l u i, at_ l u i, ac l u i, (i : Int))
theorem arl_len (l : List E) (u : List Bool) : (arl l u).length = l.length := by simp [arl]
theorem arl_get {l : List E} {u : List Bool} {k : Nat} (h : k < (arl l u).length) : (arl l u)[k] = (af l u k, at_ l u k, ac l u k, (k : Int)) := by simp [arl]
theorem own_blkT {α : Type} {w : World} {b : Nat} {e : TypeId} {sz : Nat} {cell : α → Nat → Value} {S n c : Nat} {l : List α} (h : Own w b e sz cell (.slice (some ⟨S, 0, none⟩) n c) l) : ∃ cs, w.heap[S]? = some (.cells cs e (0, 0)) := by
  rcases h.2 with ⟨h1, _⟩ | ⟨g, cap, cur, hv, _, hh, _⟩
  · cases h1
  · injection hv with hv _ _
    injection hv with hv
    injection hv with hv _ _
    subst hv
    exact ⟨cur, hh⟩
/-- an arc's four cells -/
theorem own_at4 {w : World} {base : Nat} {e : TypeId} {A : Option Addr} {n c : Nat} {l : List A4} (hn : l.length = n) (h : Own w base e 4 c4 (.slice A n c) l) {k : Nat} (hk : k < l.length) :
    ∃ S, A = some ⟨S, 0, none⟩ ∧ S < w.heap.size ∧ w.cell? ⟨S, k * 4, none⟩ = some (.int .i64 (l[k]).1) ∧ w.cell? ⟨S, k * 4 + 1, none⟩ = some (.int .i64 (l[k]).2.1) ∧ w.cell? ⟨S, k * 4 + 2, none⟩ = some (.int .i64 (l[k]).2.2.1) ∧ w.cell? ⟨S, k * 4 + 3, none⟩ = some (.int .i64 (l[k]).2.2.2) := by
  subst hn
  obtain ⟨S, c', hv, hb, hS, _, hc⟩ := h.some_ (by omega)
  injection hv with hv _ _
  exact ⟨S, hv, hS, (hc k hk 0 (by omega)).1, (hc k hk 1 (by omega)).1, (hc k hk 2 (by omega)).1, (hc k hk 3 (by omega)).1⟩
/-- the used edges' row, of the caller's own -/
structure UM (w0 w : World) (U : Nat) (m : Nat) (u : List Bool) : Prop where
  own : Own w w0.heap.size 4 1 cb (.slice (some ⟨U, 0, none⟩) m m) u
  len : u.length = m
  lo : Below w0.heap.size w0 w
/-- within carry -/
structure CA (w0 w : World) (b1 n m U SD SP : Nat) (Aa : Option Addr) (ma ca : Nat) (u : List Bool) (ar : List A4) (D P : List Int) : Prop where
  um : UM w0 w U m u
  arcs : Own w b1 126 4 c4 (.slice Aa ma ca) ar
  al : ar.length = ma
  dist : Own w b1 3 1 ci (.slice (some ⟨SD, 0, none⟩) n n) D
  pred : Own w b1 3 1 ci (.slice (some ⟨SP, 0, none⟩) n n) P
  dl : D.length = n
  pl : P.length = n
  ne : SD ≠ SP
  b0 : w0.heap.size ≤ b1
section
variable {w0 w w' : World} {b1 n m U SD SP ma ca : Nat} {Aa : Option Addr} {u : List Bool} {ar : List A4} {D P : List Int}
theorem UM.keep (h : UM w0 w U m u) (hb : Below w.heap.size w w') : UM w0 w' U m u := ⟨h.own.keep hb, h.len, h.lo.trans (hb.mono h.lo.size)⟩
theorem UM.set (h : UM w0 w U m u) {k : Nat} (hk : k < m) (b : Bool) : UM w0 (w.setCell ⟨U, k, none⟩ (.bool b)) U m (u.set k b) :=
  ⟨own_setG (cell := cb) h.len h.own k hk b, by rw [List.length_set]; exact h.len, h.lo.setCell (h.own.base_ U rfl).1 _⟩
theorem UM.at1 (h : UM w0 w U m u) {k : Nat} (hk : k < m) : w.cell? ⟨U, k, none⟩ = some (.bool (ub u k)) ∧ w.frozen? ⟨U, k, none⟩ = false := own_atG false h.len h.own hk
theorem CA.keep (h : CA w0 w b1 n m U SD SP Aa ma ca u ar D P) (hb : Below w.heap.size w w') : CA w0 w' b1 n m U SD SP Aa ma ca u ar D P :=
  ⟨h.um.keep hb, h.arcs.keep hb, h.al, h.dist.keep hb, h.pred.keep hb, h.dl, h.pl, h.ne, h.b0⟩
theorem CA.alloc (h : CA w0 w b1 n m U SD SP Aa ma ca u ar D P) (o : Obj) : CA w0 (w.alloc o) b1 n m U SD SP Aa ma ca u ar D P := h.keep ((Below.refl _ _).alloc (Nat.le_refl _) _)
theorem CA.drewN (h : CA w0 w b1 n m U SD SP Aa ma ca u ar D P) (k : Nat) : CA w0 (w.drewN k) b1 n m U SD SP Aa ma ca u ar D P := h.keep (below_drewN (Below.refl _ _) k)
theorem CA.drew1 (h : CA w0 w b1 n m U SD SP Aa ma ca u ar D P) : CA w0 w.drew b1 n m U SD SP Aa ma ca u ar D P := h.drewN 1
theorem CA.setD (h : CA w0 w b1 n m U SD SP Aa ma ca u ar D P) (k : Nat) (x : Int) : CA w0 (w.setCell ⟨SD, k, none⟩ (.int .i64 x)) b1 n m U SD SP Aa ma ca u ar (D.set k x) P := by
  obtain ⟨cs, hb⟩ := own_blkT h.dist
  have hs := h.dist.base_ SD rfl
  have hne := h.ne
  exact ⟨⟨h.um.own.setCell (h.um.own.ne_ hb (by decide)) _, h.um.len, h.um.lo.setCell (Nat.le_trans h.b0 hs.1) _⟩, h.arcs.setCell (h.arcs.ne_ hb (by decide)) _, h.al, own_set1 h.dl h.dist k x, h.pred.setCell (fun e => hne (by injection e with e; exact e.symm)) _, by rw [List.length_set]; exact h.dl, h.pl, h.ne, h.b0⟩
theorem CA.setP (h : CA w0 w b1 n m U SD SP Aa ma ca u ar D P) (k : Nat) (x : Int) : CA w0 (w.setCell ⟨SP, k, none⟩ (.int .i64 x)) b1 n m U SD SP Aa ma ca u ar D (P.set k x) := by
  obtain ⟨cs, hb⟩ := own_blkT h.pred
  have hs := h.pred.base_ SP rfl
  have hne := h.ne
  exact ⟨⟨h.um.own.setCell (h.um.own.ne_ hb (by decide)) _, h.um.len, h.um.lo.setCell (Nat.le_trans h.b0 hs.1) _⟩, h.arcs.setCell (h.arcs.ne_ hb (by decide)) _, h.al, h.dist.setCell (fun e => hne (by injection e with e)) _, own_set1 h.pl h.pred k x, h.dl, by rw [List.length_set]; exact h.pl, h.ne, h.b0⟩
theorem CA.setU (h : CA w0 w b1 n m U SD SP Aa ma ca u ar D P) {k : Nat} (hk : k < m) (b : Bool) : CA w0 (w.setCell ⟨U, k, none⟩ (.bool b)) b1 n m U SD SP Aa ma ca (u.set k b) ar D P := by
  obtain ⟨cs, hb⟩ := own_blkT h.um.own
  exact ⟨h.um.set hk b, h.arcs.setCell (h.arcs.ne_ hb (by decide)) _, h.al, h.dist.setCell (h.dist.ne_ hb (by decide)) _, h.pred.setCell (h.pred.ne_ hb (by decide)) _, h.dl, h.pl, h.ne, h.b0⟩
end
end Go.Proofs.Ytjhnlkmdkjlkdaa.Twin
