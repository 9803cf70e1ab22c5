/- The memory of flow.seek: who lies where, and what each write leaves as it was. -/
import Derived.Test.YtjebckehmmbkbaaVQueue
import Derived.Test.YtjebckehmmbkbaaVRowSet
import Derived.Test.YtjebckehmmbkbaaVGridOver
namespace Go.Proofs.Ytjebckehmmbkbaa.Flow
open Go.RowKit Go.Proofs.Ytjebckehmmbkbaa NetLaw FlowLaw FlowBfs Go.Proofs.Ytjebckehmmbkbaa.Net Go.Proofs.Ytjebckehmmbkbaa.Std Go.Proofs.Ytjebckehmmbkbaa.Queue
set_option linter.unusedSimpArgs false
set_option linter.unusedVariables false
def cb (b : Bool) (_ : Nat) : Value := .bool b
theorem own_atG {α : Type} {w : World} {base : Nat} {e : TypeId} {cell : α → Nat → Value} {S c n : Nat} {l : List α} (d : α) (hn : l.length = n) (h : Own w base e 1 cell (.slice (some ⟨S, 0, none⟩) n c) l) {k : Nat} (hk : k < n) :
    w.cell? ⟨S, k, none⟩ = some (cell (l.getD k d) 0) ∧ w.frozen? ⟨S, k, none⟩ = false := by
  obtain ⟨S', c', hv, _, _, _, hc⟩ := h.some_ (by omega)
  injection hv with hv
  injection hv with hv
  injection hv with hv
  subst hv
  obtain ⟨a, b⟩ := hc k (by omega) 0 (by decide)
  rw [Nat.mul_one, Nat.add_zero] at a b
  refine ⟨?_, b⟩
  rw [a, List.getD_eq_getElem?_getD, List.getElem?_eq_getElem (by omega)]
  rfl
theorem own_setG {α : Type} {w : World} {base : Nat} {e : TypeId} {cell : α → Nat → Value} {S c n : Nat} {l : List α} (hn : l.length = n) (h : Own w base e 1 cell (.slice (some ⟨S, 0, none⟩) n c) l) (k : Nat) (hk : k < n) (a : α) :
    Own (w.setCell ⟨S, k, none⟩ (cell a 0)) base e 1 cell (.slice (some ⟨S, 0, none⟩) n c) (l.set k a) := by
  have h1 := own_setj hn h k 0 a (by omega) (by decide) (fun j hj hne => by omega)
  rw [Nat.mul_one, Nat.add_zero] at h1
  exact h1
theorem own_madeI (n base : Nat) (w : World) (hb : base ≤ w.heap.size) (hn : n ≤ 1000000) {g : Nat} (hg : w.heap.size = g) : Own (w.alloc (.cells (madeCells #[.int .i64 0] n) 3)) base 3 1 ci (.slice (some ⟨g, 0, none⟩) n n) (List.replicate n 0) :=
  own_new' w _ _ hg (by simp) hb hn (by
    rw [fl_map]
    apply List.ext_getElem
    · simp [madeCells]
    · intro i h1 h2
      simp [madeCells, ci, Nat.mod_one])
theorem fl_mapG {α : Type} (cell : α → Nat → Value) (l : List α) : fl 1 cell l = l.map fun x => cell x 0 := by
  induction l with
  | nil => rfl
  | cons a r ih =>
    have e : fl 1 cell (a :: r) = (List.range 1).map (cell a) ++ fl 1 cell r := rfl
    rw [e, ih]
    rfl
theorem own_madeB (n base : Nat) (w : World) (hb : base ≤ w.heap.size) (hn : n ≤ 1000000) {g : Nat} (hg : w.heap.size = g) : Own (w.alloc (.cells (madeCells #[.bool false] n) 4)) base 4 1 cb (.slice (some ⟨g, 0, none⟩) n n) (List.replicate n false) :=
  own_new' w _ _ hg (by simp) hb hn (by
    rw [fl_mapG]
    apply List.ext_getElem
    · simp [madeCells]
    · intro i h1 h2
      simp [madeCells, cb, Nat.mod_one])
theorem Sl.at1 {w : World} {B b o : Nat} {l : List Int} (h : Sl w B 1 ci (some ⟨b, o, none⟩) l) {k : Nat} (hk : k < l.length) : b < B ∧ w.cell? ⟨b, o + k, none⟩ = some (.int .i64 (l.getD k 0)) := by
  obtain ⟨b', o', he, hb, hc⟩ := h.atI hk
  injection he with he
  injection he with h1 h2
  subst h1 h2
  refine ⟨hb, ?_⟩
  rw [hc, List.getD_eq_getElem?_getD, List.getElem?_eq_getElem hk]
  rfl
structure SkM (w0 w : World) (n : Nat) (A : Option Addr) (c m : Nat) (S8 S10 q : Nat) (B : List Int) (Sn : List Bool) : Prop where
  by_ : Own w w0.heap.size 3 1 ci (.slice (some ⟨S8, 0, none⟩) n n) B
  seen : Own w w0.heap.size 4 1 cb (.slice (some ⟨S10, 0, none⟩) n n) Sn
  box : w.heap[w0.heap.size]? = some (.cells #[.int .i64 n, .slice A m c] 24 (0, 0))
  lo : Below w0.heap.size w0 w
  a1 : w0.heap.size < S8
  a2 : S8 < S10
  a3 : S10 < q
  a4 : q ≤ w.heap.size
  bl : B.length = n
  sl : Sn.length = n
section
variable {w0 w w' : World} {n c m S8 S10 q : Nat} {A : Option Addr} {B : List Int} {Sn : List Bool}
theorem SkM.keepQ (h : SkM w0 w n A c m S8 S10 q B Sn) (hb : Below q w w') : SkM w0 w' n A c m S8 S10 q B Sn :=
  ⟨h.by_.below hb fun k hk => by have hk : S8 = k := (by simpa [Value.ownBlock] using hk); have := h.a2; have := h.a3; omega, h.seen.below hb fun k hk => by have hk : S10 = k := (by simpa [Value.ownBlock] using hk); have := h.a3; omega, blk_below h.box hb (by have := h.a1; have := h.a2; have := h.a3; omega), h.lo.trans (hb.mono (by have := h.a1; have := h.a2; have := h.a3; omega)), h.a1, h.a2, h.a3, Nat.le_trans h.a4 hb.size, h.bl, h.sl⟩
theorem SkM.alloc (h : SkM w0 w n A c m S8 S10 q B Sn) (o : Obj) : SkM w0 (w.alloc o) n A c m S8 S10 q B Sn := h.keepQ ((Below.refl _ _).alloc h.a4 _)
theorem SkM.drewN (h : SkM w0 w n A c m S8 S10 q B Sn) (k : Nat) : SkM w0 (w.drewN k) n A c m S8 S10 q B Sn := h.keepQ (below_drewN (Below.refl _ _) k)
theorem SkM.setB (h : SkM w0 w n A c m S8 S10 q B Sn) (k : Nat) (hk : k < n) (x : Int) : SkM w0 (w.setCell ⟨S8, k, none⟩ (.int .i64 x)) n A c m S8 S10 q (B.set k x) Sn :=
  ⟨own_setG (cell := ci) h.bl h.by_ k hk x, h.seen.setCell (fun e => by injection e with e; have := h.a2; simp at e; omega) _, blk_far h.box (by have := h.a1; dsimp only; omega) _, h.lo.setCell (by have := h.a1; dsimp only; omega) _, h.a1, h.a2, h.a3, by simpa [World.setCell] using h.a4, by rw [List.length_set]; exact h.bl, h.sl⟩
theorem SkM.setS (h : SkM w0 w n A c m S8 S10 q B Sn) (k : Nat) (hk : k < n) (x : Bool) : SkM w0 (w.setCell ⟨S10, k, none⟩ (.bool x)) n A c m S8 S10 q B (Sn.set k x) :=
  ⟨h.by_.setCell (fun e => by injection e with e; have := h.a2; simp at e; omega) _, own_setG (cell := cb) h.sl h.seen k hk x, blk_far h.box (by have := h.a1; have := h.a2; dsimp only; omega) _, h.lo.setCell (by have := h.a1; have := h.a2; dsimp only; omega) _, h.a1, h.a2, h.a3, by simpa [World.setCell] using h.a4, h.bl, by rw [List.length_set]; exact h.sl⟩
end
/-- in a round: the queue, and the edge that is looked at -/
structure RdM (w0 w : World) (n : Nat) (A : Option Addr) (c mm S8 S10 q ge : Nat) (f t : Nat) (co : Int) (b off m c9 : Nat) (Q B : List Int) (Sn : List Bool) : Prop where
  sk : SkM w0 w n A c mm S8 S10 q B Sn
  qu : Qu w q b off m c9 Q
  gb : w.heap[ge]? = some (.cells #[.int .i64 f, .int .i64 t, .int .i64 co] 48 (0, 0))
  ge_ : q ≤ ge
  ne : ge ≠ b
section
variable {w0 w w' : World} {n c mm S8 S10 q ge f t b off m c9 : Nat} {co : Int} {A : Option Addr} {Q B : List Int} {Sn : List Bool}
theorem RdM.keep (h : RdM w0 w n A c mm S8 S10 q ge f t co b off m c9 Q B Sn) (hb : Below w.heap.size w w') : RdM w0 w' n A c mm S8 S10 q ge f t co b off m c9 Q B Sn :=
  ⟨h.sk.keepQ (hb.mono h.sk.a4), h.qu.keep hb, blk_below h.gb hb (lt_of_block h.gb), h.ge_, h.ne⟩
theorem RdM.alloc (h : RdM w0 w n A c mm S8 S10 q ge f t co b off m c9 Q B Sn) (o : Obj) : RdM w0 (w.alloc o) n A c mm S8 S10 q ge f t co b off m c9 Q B Sn := h.keep ((Below.refl _ _).alloc (Nat.le_refl _) _)
theorem RdM.drewN (h : RdM w0 w n A c mm S8 S10 q ge f t co b off m c9 Q B Sn) (k : Nat) : RdM w0 (w.drewN k) n A c mm S8 S10 q ge f t co b off m c9 Q B Sn := h.keep (below_drewN (Below.refl _ _) k)
theorem RdM.setB (h : RdM w0 w n A c mm S8 S10 q ge f t co b off m c9 Q B Sn) (k : Nat) (hk : k < n) (x : Int) : RdM w0 (w.setCell ⟨S8, k, none⟩ (.int .i64 x)) n A c mm S8 S10 q ge f t co b off m c9 Q (B.set k x) Sn := by
  have a2 := h.sk.a2
  have a3 := h.sk.a3
  have a5 := h.qu.lo
  have a6 := h.ge_
  exact ⟨h.sk.setB k hk x, h.qu.setCell (by dsimp only; omega) _, blk_far h.gb (by dsimp only; omega) _, h.ge_, h.ne⟩
theorem RdM.setS (h : RdM w0 w n A c mm S8 S10 q ge f t co b off m c9 Q B Sn) (k : Nat) (hk : k < n) (x : Bool) : RdM w0 (w.setCell ⟨S10, k, none⟩ (.bool x)) n A c mm S8 S10 q ge f t co b off m c9 Q B (Sn.set k x) := by
  have a3 := h.sk.a3
  have a5 := h.qu.lo
  have a6 := h.ge_
  exact ⟨h.sk.setS k hk x, h.qu.setCell (by dsimp only; omega) _, blk_far h.gb (by dsimp only; omega) _, h.ge_, h.ne⟩
theorem RdM.push (h : RdM w0 w n A c mm S8 S10 q ge f t co b off m c9 Q B Sn) {b' off' m' c' : Nat} {Q' : List Int} (hq : Qu w' q b' off' m' c' Q') (hp : Pushed w w' q b b') : RdM w0 w' n A c mm S8 S10 q ge f t co b' off' m' c' Q' B Sn := by
  refine ⟨h.sk.keepQ hp.below, hq, hp.other ge _ h.ne h.gb, h.ge_, ?_⟩
  have h1 := h.ne
  have h2 := lt_of_block h.gb
  rcases hp.at_ with e | e <;> omega
/-- a queue's first stays -/
theorem head_snoc {α : Type} {Q : List α} {x y : α} (h : Q.head? = some x) : (Q ++ [y]).head? = some x := by rw [List.head?_append, h]; rfl
/-- what a round reads -/
theorem RdM.cells (h : RdM w0 w n A c mm S8 S10 q ge f t co b off m c9 Q B Sn) : (w.cell? ⟨ge, 0, none⟩ = some (.int .i64 f) ∧ w.cell? ⟨ge, 1, none⟩ = some (.int .i64 t) ∧ w.cell? ⟨ge, 2, none⟩ = some (.int .i64 co)) ∧ ge < w.heap.size ∧ S8 < w.heap.size ∧ S10 < w.heap.size ∧ S8 ≠ S10 ∧ ge ≠ S8 ∧ ge ≠ S10 := by
  have a2 := h.sk.a2
  have a3 := h.sk.a3
  have a4 := h.sk.a4
  have a6 := h.ge_
  have a7 := lt_of_block h.gb
  have e0 := blk_cell h.gb 0
  have e1 := blk_cell h.gb 1
  have e2 := blk_cell h.gb 2
  exact ⟨⟨e0, e1, e2⟩, a7, by omega, by omega, by omega, by omega, by omega⟩
end
end Go.Proofs.Ytjebckehmmbkbaa.Flow
