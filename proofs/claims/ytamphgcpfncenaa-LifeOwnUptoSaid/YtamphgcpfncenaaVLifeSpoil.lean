/- What spoils a list that is none of a plan's leaves the plan as it was. -/
import Derived.Test.YtamphgcpfncenaaVLifeUse
import Derived.Test.YtamphgcpfncenaaVOwnEdge
namespace Go.Proofs.Ytamphgcpfncenaa.Life
open Go.RowKit Go.Proofs.Ytamphgcpfncenaa NetLaw BellLaw FlowLaw LifeLaw Go.Proofs.Ytamphgcpfncenaa.Net Go.Proofs.Ytamphgcpfncenaa.Std Go.Proofs.Ytamphgcpfncenaa.Flow
open Go.Proofs.Ytamphgcpfncenaa.Heap (Kp Kp.refl Kp.below Kp.alloc Kp.drew Kp.setCell Kp.grown Kp.to fnOf)
open Go.Proofs.Ytamphgcpfncenaa.HeapS (HeapAt d0 ltP ltP_ord)
set_option linter.unusedSimpArgs false
set_option linter.unusedVariables false
abbrev obk (A : Option Addr) : Option Nat := (Value.slice A 0 0).ownBlock
theorem obk_ (A : Option Addr) (n c : Nat) : (Value.slice A n c).ownBlock = obk A := by cases A <;> rfl
theorem kpt {α : Type} {w w' : World} {b : Nat} {e : TypeId} {sz : Nat} {cell : α → Nat → Value} {A : Option Addr} {n c : Nat} {l : List α} {r : Option Nat} (h : Own w b e sz cell (.slice A n c) l) (hg : w.grownBy w' r) (hr : ∀ k, r = some k → obk A ≠ some k) : Own w' b e sz cell (.slice A n c) l := by
  refine h.kept hg ?_
  rw [obk_]
  cases hA : obk A with
  | none => exact .inl rfl
  | some g => exact .inr (fun e => hr g e.symm hA)
theorem blkt {w w' : World} {g : Nat} {o : Obj} {r : Option Nat} (h : w.heap[g]? = some o) (hg : w.grownBy w' r) (hr : ∀ k, r = some k → g ≠ k) : w'.heap[g]? = some o :=
  (hg.block g (lt_of_block h) (fun e => hr g e.symm rfl)).trans h
theorem grown_low {w w' : World} {r : Option Nat} {B : Nat} (hg : w.grownBy w' r) (hr : ∀ k, r = some k → B ≤ k) (hB : B ≤ w.heap.size) : Below B w w' :=
  ⟨hg.os, hg.tape, hg.output, hg.size, fun k hk => hg.block k (by omega) (fun e => by have := hr k e.symm; omega)⟩
/-- a world cut short -/
def cutW (w : World) (B : Nat) : World := { w with heap := w.heap.extract 0 B }
theorem cutW_size {w : World} {B : Nat} (h : B ≤ w.heap.size) : (cutW w B).heap.size = B := by simp [cutW, h]
theorem cutW_below {w : World} {B : Nat} (h : B ≤ w.heap.size) : Below B (cutW w B) w :=
  ⟨rfl, rfl, rfl, by rw [cutW_size h]; exact h, fun k hk => by simp [cutW, Array.getElem?_extract]; omega⟩
theorem below_two {B : Nat} {a w w' : World} (h : Below B a w) (h' : Below B a w') (hz : w.heap.size ≤ w'.heap.size) : Below B w w' :=
  ⟨h'.os.trans h.os.symm, h'.tape.trans h.tape.symm, h'.output.trans h.output.symm, hz, fun k hk => (h'.block k hk).trans (h.block k hk).symm⟩
section
variable {w0 w w' : World} {n s t P M cE TI TO SC cC SL cL H mw cw : Nat} {AE Aw : Option Addr} {FI FO : Nat → Option Addr × Nat} {l : List E} {D R : List Int} {L : List Sp} {wk : Int}
theorem LM.other {r : Option Nat} {w1 : World} (h : LM w0 w n s t P M AE cE TI TO FI FO SC cC SL cL H l D R Aw mw cw L wk) (hg : w.grownBy w' r) (hz : w1.heap.size = w0.heap.size) (hlo : Below w0.heap.size w1 w') (hk : ∀ k, r = some k → P ≠ k ∧ obk AE ≠ some k ∧ SC ≠ k ∧ SL ≠ k ∧ TI ≠ k ∧ TO ≠ k ∧ H ≠ k ∧ obk Aw ≠ some k ∧ (∀ v, v < n → obk (FI v).1 ≠ some k) ∧ ∀ v, v < n → obk (FO v).1 ≠ some k) : LM w1 w' n s t P M AE cE TI TO FI FO SC cC SL cL H l D R Aw mw cw L wk := by
  have tb : ∀ {S : Nat} {F : Nat → Option Addr × Nat} {Ls : Nat → List Int}, Tab w w0.heap.size S n F Ls → (∀ k, r = some k → S ≠ k ∧ ∀ v, v < n → obk (F v).1 ≠ some k) → Tab w' w0.heap.size S n F Ls := fun ht hr => by
    obtain ⟨cs, hb, hs, hc⟩ := ht.blk
    exact ⟨ht.lo, ⟨cs, blkt hb hg (fun k e => (hr k e).1), hs, hc⟩, fun v hv => kpt (ht.own v hv) hg (fun k e => (hr k e).2 v hv), ht.sep⟩
  have lo2 : Below w1.heap.size w1 w' := by rw [hz]; exact hlo
  have e1 := blkt h.z hg (fun k e => (hk k e).1)
  have e2 := kpt h.net hg (fun k e => (hk k e).2.1)
  have e3 := kpt h.cost hg (fun k e he => (hk k e).2.2.1 (by injection he))
  have e4 := kpt h.look hg (fun k e he => (hk k e).2.2.2.1 (by injection he))
  have e5 := tb h.tabI (fun k e => ⟨(hk k e).2.2.2.2.1, (hk k e).2.2.2.2.2.2.2.2.1⟩)
  have e6 := tb h.tabO (fun k e => ⟨(hk k e).2.2.2.2.2.1, (hk k e).2.2.2.2.2.2.2.2.2⟩)
  have e7 : HeapAt w' w0.heap.size H (fnOf 55) Aw mw cw L := ⟨h.heap.hb, blkt h.heap.blk hg (fun k e => (hk k e).2.2.2.2.2.2.1), kpt h.heap.own hg (fun k e => (hk k e).2.2.2.2.2.2.2.1), h.heap.len⟩
  have zl := h.zl
  rw [← hz] at e2 e3 e4 e5 e6 e7 zl
  exact ⟨e1, zl, e2, e3, e4, e5, e6, e7, h.hp, h.ne, h.sepI, h.sepO, lo2, h.ll, h.dl, h.rl⟩
theorem lo_ne {b k : Nat} {A : Option Addr} {α : Type} {e : TypeId} {sz m c : Nat} {cell : α → Nat → Value} {r : List α} (h : Own w b e sz cell (.slice A m c) r) (hk : k < b) : obk A ≠ some k := fun he => by
  have := (h.base_ k (by rw [obk_]; exact he)).1
  omega
theorem hi_ne {b k : Nat} {A : Option Addr} {α : Type} {e : TypeId} {sz m c : Nat} {cell : α → Nat → Value} {r : List α} (h : Own w b e sz cell (.slice A m c) r) (hk : w.heap.size ≤ k) : obk A ≠ some k := fun he => by
  have := (h.base_ k (by rw [obk_]; exact he)).2
  omega
/-- spoiled below the plan -/
theorem LM.under {r : Option Nat} (h : LM w0 w n s t P M AE cE TI TO FI FO SC cC SL cL H l D R Aw mw cw L wk) (hg : w.grownBy w' r) (hr : ∀ k, r = some k → k < w0.heap.size) : LM (cutW w' w0.heap.size) w' n s t P M AE cE TI TO FI FO SC cC SL cL H l D R Aw mw cw L wk := by
  have hsz : w0.heap.size ≤ w'.heap.size := Nat.le_trans h.lo.size hg.size
  refine h.other hg (cutW_size hsz) (cutW_below hsz) fun k e => ?_
  have hk := hr k e
  have a1 := h.zl
  have a2 := h.heap.hb
  have a3 := h.tabI.lo
  have a4 := h.tabO.lo
  have a5 := (h.cost.base_ SC rfl).1
  have a6 := (h.look.base_ SL rfl).1
  exact ⟨by omega, lo_ne h.net hk, by omega, by omega, by omega, by omega, by omega, lo_ne h.heap.own hk, fun v hv => lo_ne (h.tabI.own v hv) hk, fun v hv => lo_ne (h.tabO.own v hv) hk⟩
end
theorem Pln.under {w0 w w' : World} {n s t P m : Nat} {l : List E} {wk : Int} {r : Option Nat} (h : Pln w0 w n s t P l m wk) (hg : w.grownBy w' r) (hr : ∀ k, r = some k → k < w0.heap.size) : Pln (cutW w' w0.heap.size) w' n s t P l m wk := by
  obtain ⟨AE, cE, TI, TO, FI, FO, SC, cC, SL, cL, H, D, R, Aw, mw, cw, L, h1, h2⟩ := h
  exact ⟨AE, cE, TI, TO, FI, FO, SC, cC, SL, cL, H, D, R, Aw, mw, cw, L, h1.under hg hr, h2⟩
/-- Way, and that the list told is none of the plan's -/
theorem way_own {w0 w : World} {n s t P m : Nat} {l : List E} {wk : Int} (h : Pln w0 w n s t P l m wk) (hm : m ≤ 3000000000000) :
    Calls Try.prog 18 #[.pointer (some ⟨P, 0, none⟩)] w fun e w' => ∃ A k c co er wk', e = .returned (.tuple #[.agg #[.slice A k c, .int .i64 co], .int .i64 er]) ∧ Hid (∀ Wa Wb, Below w'.heap.size w' Wa → Wa.grownBy Wb (Value.slice A k c).ownBlock → Pln w0 Wb n s t P l (m + 80000) wk') ∧ w.heap.size ≤ w'.heap.size ∧ Hid (WF n s t l A k c co er w w') ∧ Hid (Below w0.heap.size w0 w') := by
  obtain ⟨AE, cE, TI, TO, FI, FO, SC, cC, SL, cL, H, D, R, Aw, mw, cw, L, h1, h2, h3, h4, h5, h6⟩ := h
  refine (way_any h1 h4 h2 h3 h5 (Gd.good h4).1 (by omega)).mono ?_
  rintro e w' ⟨D', R', Aw', mw', cw', L', wk', k1, k2, k3, k4, k5, k6, k7, d, k8, k9⟩
  rcases k9 with ⟨e1, he⟩ | ⟨e1, A, c, p, he, e2, e3⟩
  · refine ⟨none, 0, 0, 0, 5, wk', he, Lib.hid fun Wa Wb hb hgr => ?_, k7, Lib.hid ⟨d, k8.out, .inl ⟨e1, rfl, rfl, rfl, rfl, rfl⟩⟩, Lib.hid k1.out.lo⟩
    have hl := k1.out.keep hb
    refine ⟨AE, cE, TI, TO, FI, FO, SC, cC, SL, cL, H, D', R', Aw', mw', cw', L', hl.other hgr rfl (hl.lo.trans (grown_low hgr (fun k e => (nomatch e)) hl.lo.size)) (fun k e => (nomatch e)), k2.out, k3.out, h4, h5, by omega⟩
  · refine ⟨A, p.length, c, d, 0, wk', he, Lib.hid fun Wa Wb hb hgr => ?_, k7, Lib.hid ⟨d, k8.out, .inr ⟨e1, rfl, rfl, p, rfl, e2.out, e3.out⟩⟩, Lib.hid k1.out.lo⟩
    have hl := k1.out.keep hb
    have ho := e2.out.keep hb
    have hk : ∀ k, (Value.slice A p.length c).ownBlock = some k → w.heap.size ≤ k ∧ ∃ cs, Wa.heap[k]? = some (.cells cs 3 (0, 0)) := fun k e => by
      have hk0 := (ho.base_ k e).1
      rcases ho.2 with ⟨x1, _⟩ | ⟨g, cap, cur, hv, _, hh, _⟩
      · rw [x1] at e; cases e
      · rw [hv] at e
        injection e with e
        subst e
        exact ⟨hk0, cur, hh⟩
    refine ⟨AE, cE, TI, TO, FI, FO, SC, cC, SL, cL, H, D', R', Aw', mw', cw', L', hl.other hgr rfl (hl.lo.trans (grown_low hgr (fun k e => Nat.le_trans h1.lo.size (hk k e).1) hl.lo.size)) (fun k e => ?_), k2.out, k3.out, h4, h5, by omega⟩
    obtain ⟨k0, cs, hcs⟩ := hk k e
    obtain ⟨cI, hti, _⟩ := hl.tabI.blk
    obtain ⟨cO, hto, _⟩ := hl.tabO.blk
    have a5 := (h1.cost.base_ SC rfl).2
    have a6 := (h1.look.base_ SL rfl).2
    exact ⟨blk_ne hl.z hcs (by decide), fun e => hl.net.ne_ hcs (by decide) ((obk_ ..).trans e), by omega, by omega, blk_ne hti hcs (by decide), blk_ne hto hcs (by decide), blk_ne hl.heap.blk hcs (by decide), fun e => hl.heap.own.ne_ hcs (by decide) ((obk_ ..).trans e), fun v hv => hi_ne (h1.tabI.own v hv) k0, fun v hv => hi_ne (h1.tabO.own v hv) k0⟩
end Go.Proofs.Ytamphgcpfncenaa.Life
