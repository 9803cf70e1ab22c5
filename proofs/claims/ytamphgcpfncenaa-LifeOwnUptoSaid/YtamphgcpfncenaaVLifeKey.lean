/- The memory of a life.Plan: who lies where, and what each write leaves as it was. -/
/- The walks of (*life.Plan).key and put, and of Top of its heap. -/
import Derived.Test.YtamphgcpfncenaaVLifeInv
import Derived.Test.YtamphgcpfncenaaVHeapSpotPop
import Derived.Test.YtamphgcpfncenaaVNetOuts
import Derived.Test.YtamphgcpfncenaaVFlowMem
import Derived.Test.YtamphgcpfncenaaVBellWalks
import Derived.StillTailTactics
import Derived.BigRegion
import Derived.BigQuiet
import Derived.Deep.RegionHeld3
namespace Go.Proofs.Ytamphgcpfncenaa.Life
open Go.RowKit Go.Proofs.Ytamphgcpfncenaa NetLaw BellLaw FlowLaw LifeLaw Go.Proofs.Ytamphgcpfncenaa.Net Go.Proofs.Ytamphgcpfncenaa.Std Go.Proofs.Ytamphgcpfncenaa.Flow
open Go.Proofs.Ytamphgcpfncenaa.Heap (Kp Kp.refl Kp.below Kp.alloc Kp.drew Kp.setCell Kp.grown Kp.to fnOf)
open Go.Proofs.Ytamphgcpfncenaa.HeapS (HeapAt d0 ltP ltP_ord)
set_option linter.unusedSimpArgs false
set_option linter.unusedVariables false

theorem ltS_ltP : ltS = ltP := rfl
section
variable {w w' : World} {base base' H n c : Nat} {fn : Value} {A : Option Addr} {L : List Sp}
theorem blk_kp {g : Nat} {cs : Array Value} {t : TypeId} {fr : Nat × Nat} (h : HeapAt w base H fn A n c L) (hk : Kp w w' H (Value.slice A n c).ownBlock) (hg : w.heap[g]? = some (.cells cs t fr)) (h1 : 145 ≠ t) (h2 : 102 ≠ t) : w'.heap[g]? = some (.cells cs t fr) := by
  refine (hk.block g (lt_of_block hg) (fun e => ?_) (fun e => h.own.ne_ hg h2 e.symm)).trans hg
  subst e
  have := h.blk
  rw [hg] at this
  injection this with this
  injection this with _ ht _
  exact h1 ht.symm
theorem own_kp {α : Type} {sz : Nat} {cell : α → Nat → Value} {e : TypeId} {v : Value} {r : List α} (h : HeapAt w base H fn A n c L) (hk : Kp w w' H (Value.slice A n c).ownBlock) (ho : Own w base' e sz cell v r) (h1 : 145 ≠ e) (h2 : 102 ≠ e) : Own w' base' e sz cell v r := by
  refine ⟨ho.1, ?_⟩
  rcases ho.2 with h3 | ⟨g, cap, cur, rfl, hg, hh, rest⟩
  · exact .inl h3
  · exact .inr ⟨g, cap, cur, rfl, hg, blk_kp h hk hh h1 h2, rest⟩
theorem tab_kp {S m : Nat} {F : Nat → Option Addr × Nat} {Ls : Nat → List Int} (h : HeapAt w base H fn A n c L) (hk : Kp w w' H (Value.slice A n c).ownBlock) (ht : Tab w base' S m F Ls) : Tab w' base' S m F Ls := by
  obtain ⟨cs, hb, hs, hc⟩ := ht.blk
  exact ⟨ht.lo, ⟨cs, blk_kp h hk hb (by decide) (by decide), hs, hc⟩, fun v hv => own_kp h hk (ht.own v hv) (by decide) (by decide), ht.sep⟩
theorem tab_far {S m : Nat} {F : Nat → Option Addr × Nat} {Ls : Nat → List Int} {p : Addr} (ht : Tab w base' S m F Ls) (h1 : p.block ≠ S) (h2 : ∀ v, v < m → (Value.slice (F v).1 0 0).ownBlock ≠ some p.block) (u : Value) : Tab (w.setCell p u) base' S m F Ls := by
  obtain ⟨cs, hb, hs, hc⟩ := ht.blk
  exact ⟨ht.lo, ⟨cs, blk_far hb (fun e => h1 e.symm) u, hs, hc⟩, fun v hv => (ht.own v hv).setCell (fun e => h2 v hv ((obs ..).trans e)) u, ht.sep⟩
theorem heap_far {p : Addr} {t : TypeId} {cs : Array Value} (h : HeapAt w base H fn A n c L) (hp : w.heap[p.block]? = some (.cells cs t (0, 0))) (h1 : 145 ≠ t) (h2 : 102 ≠ t) (u : Value) : HeapAt (w.setCell p u) base H fn A n c L := by
  have hne : H ≠ p.block := fun e => by
    have hb := h.blk
    rw [e, hp] at hb
    injection hb with hb
    injection hb with _ ht _
    exact h1 ht.symm
  exact ⟨h.hb, blk_far h.blk hne u, h.own.setCell (h.own.ne_ hp h2) u, h.len⟩
end
/-- the block of an own row that is there -/
theorem own_blk {α : Type} {w : World} {b : Nat} {e : TypeId} {sz : Nat} {cell : α → Nat → Value} {S n c : Nat} {l : List α} (h : Own w b e sz cell (.slice (some ⟨S, 0, none⟩) n c) l) : ∃ cs, w.heap[S]? = some (.cells cs e (0, 0)) := by
  rcases h.2 with ⟨h1, _⟩ | ⟨g, cap, cur, hv, _, hh, _⟩
  · cases h1
  · injection hv with hv _ _
    injection hv with hv
    injection hv with hv _ _
    subst hv
    exact ⟨cur, hh⟩
theorem blk_ne {w : World} {g g' : Nat} {cs cs' : Array Value} {t t' : TypeId} {f f' : Nat × Nat} (h : w.heap[g]? = some (.cells cs t f)) (h' : w.heap[g']? = some (.cells cs' t' f')) (hne : t ≠ t') : g ≠ g' := fun e => by
  subst e
  rw [h] at h'
  injection h' with h'
  injection h' with _ ht _
  exact hne ht
/-- boxes of ways stay as they were -/
def KW (w w' : World) : Prop := ∀ (g : Nat) (cs : Array Value) (fr : Nat × Nat), w.heap[g]? = some (.cells cs 36 fr) → w'.heap[g]? = some (.cells cs 36 fr)
theorem KW.refl (w : World) : KW w w := fun _ _ _ h => h
theorem KW.trans {w w' w2 : World} (h : KW w w') (h' : KW w' w2) : KW w w2 := fun g cs fr hg => h' g cs fr (h g cs fr hg)
theorem KW.below {w w' : World} (h : Below w.heap.size w w') : KW w w' := fun g cs fr hg => blk_below hg h (lt_of_block hg)
theorem KW.kp {w w' : World} {base H n c : Nat} {fn : Value} {A : Option Addr} {L : List Sp} (h : HeapAt w base H fn A n c L) (hk : Kp w w' H (Value.slice A n c).ownBlock) : KW w w' := fun g cs fr hg => blk_kp h hk hg (by decide) (by decide)
theorem KW.setCell {w : World} {p : Addr} {cs : Array Value} {t : TypeId} {fr : Nat × Nat} (hp : w.heap[p.block]? = some (.cells cs t fr)) (ht : 36 ≠ t) (u : Value) : KW w (w.setCell p u) := fun g cs' fr' hg => blk_far hg (blk_ne hg hp ht) u
/-- a plan's blocks -/
structure LM (w0 w : World) (n s t P M : Nat) (AE : Option Addr) (cE TI TO : Nat) (FI FO : Nat → Option Addr × Nat) (SC cC SL cL H : Nat) (l : List E) (D R : List Int) (Aw : Option Addr) (mw cw : Nat) (L : List Sp) (wk : Int) : Prop where
  z : w.heap[P]? = some (.cells #[.int .i64 n, .slice AE M cE, .slice (some ⟨TI, 0, none⟩) n n, .slice (some ⟨TO, 0, none⟩) n n, .int .i64 s, .int .i64 t, .slice (some ⟨SC, 0, none⟩) n cC, .slice (some ⟨SL, 0, none⟩) n cL, .pointer (some ⟨H, 0, none⟩), .int .i64 wk] 106 (0, 0))
  zl : w0.heap.size ≤ P
  net : Own w w0.heap.size 27 3 ce (.slice AE M cE) l
  cost : Own w w0.heap.size 3 1 ci (.slice (some ⟨SC, 0, none⟩) n cC) D
  look : Own w w0.heap.size 3 1 ci (.slice (some ⟨SL, 0, none⟩) n cL) R
  tabI : Tab w w0.heap.size TI n FI (ol (tl l) M)
  tabO : Tab w w0.heap.size TO n FO (ol l M)
  heap : HeapAt w w0.heap.size H (fnOf 55) Aw mw cw L
  hp : HeapLaw.Hp d0 ltP L
  ne : SC ≠ SL
  sepI : ∀ v, v < n → (Value.slice (FI v).1 0 0).ownBlock ≠ some SC ∧ (Value.slice (FI v).1 0 0).ownBlock ≠ some SL
  sepO : ∀ v, v < n → (Value.slice (FO v).1 0 0).ownBlock ≠ some SC ∧ (Value.slice (FO v).1 0 0).ownBlock ≠ some SL
  lo : Below w0.heap.size w0 w
  ll : l.length = M
  dl : D.length = n
  rl : R.length = n
section
variable {w0 w w' : World} {n s t P M cE TI TO SC cC SL cL H mw cw : Nat} {AE Aw : Option Addr} {FI FO : Nat → Option Addr × Nat} {l : List E} {D R : List Int} {L : List Sp} {wk : Int}
theorem LM.keep (h : LM w0 w n s t P M AE cE TI TO FI FO SC cC SL cL H l D R Aw mw cw L wk) (hb : Below w.heap.size w w') : LM w0 w' n s t P M AE cE TI TO FI FO SC cC SL cL H l D R Aw mw cw L wk :=
  ⟨blk_below h.z hb (lt_of_block h.z), h.zl, h.net.keep hb, h.cost.keep hb, h.look.keep hb, h.tabI.keep hb, h.tabO.keep hb, h.heap.keep hb, h.hp, h.ne, h.sepI, h.sepO, h.lo.trans (hb.mono h.lo.size), h.ll, h.dl, h.rl⟩
theorem LM.alloc (h : LM w0 w n s t P M AE cE TI TO FI FO SC cC SL cL H l D R Aw mw cw L wk) (o : Obj) : LM w0 (w.alloc o) n s t P M AE cE TI TO FI FO SC cC SL cL H l D R Aw mw cw L wk := h.keep ((Below.refl _ _).alloc (Nat.le_refl _) _)
theorem LM.drew (h : LM w0 w n s t P M AE cE TI TO FI FO SC cC SL cL H l D R Aw mw cw L wk) : LM w0 (w.drew) n s t P M AE cE TI TO FI FO SC cC SL cL H l D R Aw mw cw L wk := h.keep (Below.refl _ _).drew
theorem LM.kp {Aw' : Option Addr} {mw' cw' : Nat} {L' : List Sp} (h : LM w0 w n s t P M AE cE TI TO FI FO SC cC SL cL H l D R Aw mw cw L wk) (hk : Kp w w' H (Value.slice Aw mw cw).ownBlock) (hh : HeapAt w' w0.heap.size H (fnOf 55) Aw' mw' cw' L') (hp : HeapLaw.Hp d0 ltP L') : LM w0 w' n s t P M AE cE TI TO FI FO SC cC SL cL H l D R Aw' mw' cw' L' wk :=
  ⟨blk_kp h.heap hk h.z (by decide) (by decide), h.zl, own_kp h.heap hk h.net (by decide) (by decide), own_kp h.heap hk h.cost (by decide) (by decide), own_kp h.heap hk h.look (by decide) (by decide), tab_kp h.heap hk h.tabI, tab_kp h.heap hk h.tabO, hh, hp, h.ne, h.sepI, h.sepO, h.lo.trans (hk.to h.lo.size h.heap.hb h.heap.own.lo), h.ll, h.dl, h.rl⟩
theorem LM.setC (h : LM w0 w n s t P M AE cE TI TO FI FO SC cC SL cL H l D R Aw mw cw L wk) (k : Nat) (x : Int) : LM w0 (w.setCell ⟨SC, k, none⟩ (.int .i64 x)) n s t P M AE cE TI TO FI FO SC cC SL cL H l (D.set k x) R Aw mw cw L wk := by
  obtain ⟨cur, hb⟩ := own_blk h.cost
  obtain ⟨cs, hti, _⟩ := h.tabI.blk
  obtain ⟨cs2, hto, _⟩ := h.tabO.blk
  have hlo := (h.cost.base_ SC rfl).1
  have hne := h.ne
  exact ⟨blk_far h.z (blk_ne h.z hb (by decide)) _, h.zl, h.net.setCell (h.net.ne_ hb (by decide)) _, own_set1 h.dl h.cost k x, h.look.setCell (fun e => hne (by injection e with e; exact e.symm)) _, tab_far h.tabI (blk_ne hb hti (by decide)) (fun v hv => (h.sepI v hv).1) _, tab_far h.tabO (blk_ne hb hto (by decide)) (fun v hv => (h.sepO v hv).1) _, heap_far h.heap hb (by decide) (by decide) _, h.hp, h.ne, h.sepI, h.sepO, h.lo.setCell hlo _, h.ll, by rw [List.length_set]; exact h.dl, h.rl⟩
theorem LM.kw_setC (h : LM w0 w n s t P M AE cE TI TO FI FO SC cC SL cL H l D R Aw mw cw L wk) (k : Nat) (u : Value) : KW w (w.setCell ⟨SC, k, none⟩ u) := by
  obtain ⟨cur, hb⟩ := own_blk h.cost
  exact KW.setCell (p := ⟨SC, k, none⟩) hb (by decide) u
theorem LM.setL (h : LM w0 w n s t P M AE cE TI TO FI FO SC cC SL cL H l D R Aw mw cw L wk) (k : Nat) (x : Int) : LM w0 (w.setCell ⟨SL, k, none⟩ (.int .i64 x)) n s t P M AE cE TI TO FI FO SC cC SL cL H l D (R.set k x) Aw mw cw L wk := by
  obtain ⟨cur, hb⟩ := own_blk h.look
  obtain ⟨cs, hti, _⟩ := h.tabI.blk
  obtain ⟨cs2, hto, _⟩ := h.tabO.blk
  have hlo := (h.look.base_ SL rfl).1
  have hne := h.ne
  exact ⟨blk_far h.z (blk_ne h.z hb (by decide)) _, h.zl, h.net.setCell (h.net.ne_ hb (by decide)) _, h.cost.setCell (fun e => hne (by injection e with e)) _, own_set1 h.rl h.look k x, tab_far h.tabI (blk_ne hb hti (by decide)) (fun v hv => (h.sepI v hv).2) _, tab_far h.tabO (blk_ne hb hto (by decide)) (fun v hv => (h.sepO v hv).2) _, heap_far h.heap hb (by decide) (by decide) _, h.hp, h.ne, h.sepI, h.sepO, h.lo.setCell hlo _, h.ll, h.dl, by rw [List.length_set]; exact h.rl⟩
theorem LM.kw_setL (h : LM w0 w n s t P M AE cE TI TO FI FO SC cC SL cL H l D R Aw mw cw L wk) (k : Nat) (u : Value) : KW w (w.setCell ⟨SL, k, none⟩ u) := by
  obtain ⟨cur, hb⟩ := own_blk h.look
  exact KW.setCell (p := ⟨SL, k, none⟩) hb (by decide) u
/-- the steps that were taken -/
theorem LM.setW (h : LM w0 w n s t P M AE cE TI TO FI FO SC cC SL cL H l D R Aw mw cw L wk) (x : Int) : LM w0 (w.setCell ⟨P, 9, none⟩ (.int .i64 x)) n s t P M AE cE TI TO FI FO SC cC SL cL H l D R Aw mw cw L x := by
  obtain ⟨c1, hc⟩ := own_blk h.cost
  obtain ⟨c2, hl⟩ := own_blk h.look
  obtain ⟨cs, hti, _⟩ := h.tabI.blk
  obtain ⟨cs2, hto, _⟩ := h.tabO.blk
  have hrow : ∀ {F : Nat → Option Addr × Nat} {S : Nat} {Ls : Nat → List Int}, Tab w w0.heap.size S n F Ls → ∀ v, v < n → (Value.slice (F v).1 0 0).ownBlock ≠ some P := fun ht v hv e => (ht.own v hv).ne_ h.z (by decide) ((obs ..).trans e)
  exact ⟨blk_set h.z 9 _, h.zl, h.net.setCell (h.net.ne_ h.z (by decide)) _, h.cost.setCell (h.cost.ne_ h.z (by decide)) _, h.look.setCell (h.look.ne_ h.z (by decide)) _, tab_far h.tabI (blk_ne h.z hti (by decide)) (hrow h.tabI) _, tab_far h.tabO (blk_ne h.z hto (by decide)) (hrow h.tabO) _, heap_far h.heap h.z (by decide) (by decide) _, h.hp, h.ne, h.sepI, h.sepO, h.lo.setCell h.zl _, h.ll, h.dl, h.rl⟩
theorem LM.kw_setW (h : LM w0 w n s t P M AE cE TI TO FI FO SC cC SL cL H l D R Aw mw cw L wk) (u : Value) : KW w (w.setCell ⟨P, 9, none⟩ u) := KW.setCell (p := ⟨P, 9, none⟩) h.z (by decide) u
/-- an edge's cost -/
theorem LM.setE (h : LM w0 w n s t P M AE cE TI TO FI FO SC cC SL cL H l D R Aw mw cw L wk) {i : Nat} (hi : i < M) (c : Int) : ∃ S, AE = some ⟨S, 0, none⟩ ∧ S < w.heap.size ∧ w.cell? ⟨S, i * 3, none⟩ = some (.int .i64 (fr l i)) ∧ w.cell? ⟨S, i * 3 + 1, none⟩ = some (.int .i64 (en l i)) ∧ w.cell? ⟨S, i * 3 + 2, none⟩ = some (.int .i64 (cpt l i)) ∧ w.frozen? ⟨S, i * 3 + 2, none⟩ = false ∧ S ≠ P ∧
    LM w0 (w.setCell ⟨S, i * 3 + 2, none⟩ (.int .i64 c)) n s t P M AE cE TI TO FI FO SC cC SL cL H (l.set i (fr l i, en l i, c)) D R Aw mw cw L wk ∧ KW w (w.setCell ⟨S, i * 3 + 2, none⟩ (.int .i64 c)) := by
  have hil : i < l.length := by rw [h.ll]; exact hi
  obtain ⟨S, f, t', co, rfl, hS0, hS1, he, hcf, hct, hcc, g0, g1, g2⟩ := own_atE h.ll h.net hil
  have he2 : ed l i = (f, t', co) := by rw [ed_at hil]; exact he
  have e1 : fr l i = f := by unfold fr; rw [he2]
  have e2 : en l i = t' := by unfold en; rw [he2]
  have e3 : cpt l i = co := by unfold cpt; rw [he2]
  rw [e1, e2, e3]
  obtain ⟨cur, hb⟩ := own_blk h.net
  obtain ⟨cs, hti, _⟩ := h.tabI.blk
  obtain ⟨cs2, hto, _⟩ := h.tabO.blk
  have hset := own_setj h.ll h.net i 2 (f, t', c) hil (by decide) (fun j hj hne => by
    rw [he]
    match j, hj, hne with
    | 0, _, _ => rfl
    | 1, _, _ => rfl
    | 2, _, hne => exact absurd rfl hne)
  have hrow : ∀ {F : Nat → Option Addr × Nat} {T : Nat} {Ls : Nat → List Int}, Tab w w0.heap.size T n F Ls → ∀ v, v < n → (Value.slice (F v).1 0 0).ownBlock ≠ some S := fun ht v hv e => (ht.own v hv).ne_ hb (by decide) ((obs ..).trans e)
  have ho := fun v => ol_set hil c M v
  rw [e1, e2] at ho
  have hTI : ol (tl (l.set i (f, t', c))) M = ol (tl l) M := funext fun v => (ho v).2
  have hTO : ol (l.set i (f, t', c)) M = ol l M := funext fun v => (ho v).1
  refine ⟨S, rfl, hS1, hcf, hct, hcc, g2, fun e => blk_ne hb h.z (by decide) e, ⟨blk_far h.z (blk_ne h.z hb (by decide)) _, h.zl, hset, h.cost.setCell (h.cost.ne_ hb (by decide)) _, h.look.setCell (h.look.ne_ hb (by decide)) _, ?_, ?_, heap_far h.heap hb (by decide) (by decide) _, h.hp, h.ne, h.sepI, h.sepO, h.lo.setCell hS0 _, by rw [List.length_set]; exact h.ll, h.dl, h.rl⟩, KW.setCell (p := ⟨S, i * 3 + 2, none⟩) hb (by decide) _⟩
  · rw [hTI]; exact tab_far h.tabI (blk_ne hb hti (by decide)) (hrow h.tabI) _
  · rw [hTO]; exact tab_far h.tabO (blk_ne hb hto (by decide)) (hrow h.tabO) _
/-- what is read of a place -/
theorem LM.cells (h : LM w0 w n s t P M AE cE TI TO FI FO SC cC SL cL H l D R Aw mw cw L wk) {v : Nat} (hv : v < n) : w.cell? ⟨SC, v, none⟩ = some (.int .i64 (dg D v)) ∧ w.cell? ⟨SL, v, none⟩ = some (.int .i64 (dg R v)) ∧ w.frozen? ⟨SC, v, none⟩ = false ∧ w.frozen? ⟨SL, v, none⟩ = false ∧ SC < w.heap.size ∧ SL < w.heap.size := by
  have e1 := own_at1 h.dl h.cost hv
  have e2 := own_at1 h.rl h.look hv
  have hd : ∀ X : List Int, dg X (v : Int) = X.getD v 0 := fun X => by rw [dg, Int.toNat_natCast]
  exact ⟨by rw [hd]; exact e1.1, by rw [hd]; exact e2.1, e1.2, e2.2, (h.cost.base_ SC rfl).2, (h.look.base_ SL rfl).2⟩
/-- what is read of the plan -/
theorem LM.zs (h : LM w0 w n s t P M AE cE TI TO FI FO SC cC SL cL H l D R Aw mw cw L wk) : w.cell? ⟨P, 0, none⟩ = some (.int .i64 n) ∧ w.cell? ⟨P, 1, none⟩ = some (.slice AE M cE) ∧ w.cell? ⟨P, 2, none⟩ = some (.slice (some ⟨TI, 0, none⟩) n n) ∧ w.cell? ⟨P, 3, none⟩ = some (.slice (some ⟨TO, 0, none⟩) n n) ∧ w.cell? ⟨P, 4, none⟩ = some (.int .i64 s) ∧ w.cell? ⟨P, 5, none⟩ = some (.int .i64 t) ∧ w.cell? ⟨P, 6, none⟩ = some (.slice (some ⟨SC, 0, none⟩) n cC) ∧ w.cell? ⟨P, 7, none⟩ = some (.slice (some ⟨SL, 0, none⟩) n cL) ∧ w.cell? ⟨P, 8, none⟩ = some (.pointer (some ⟨H, 0, none⟩)) ∧ w.cell? ⟨P, 9, none⟩ = some (.int .i64 wk) ∧ w.frozen? ⟨P, 9, none⟩ = false ∧ P < w.heap.size := by
  have z := fun i => blk_cell h.z i
  exact ⟨z 0, z 1, z 2, z 3, z 4, z 5, z 6, z 7, z 8, z 9, blk_free h.z 9, lt_of_block h.z⟩
end
end Go.Proofs.Ytamphgcpfncenaa.Life

namespace Go.Proofs.Ytamphgcpfncenaa.Life
open Go.RowKit Go.Proofs.Ytamphgcpfncenaa NetLaw BellLaw FlowLaw LifeLaw Go.Proofs.Ytamphgcpfncenaa.Net Go.Proofs.Ytamphgcpfncenaa.Std Go.Proofs.Ytamphgcpfncenaa.Flow
open Go.Proofs.Ytamphgcpfncenaa.Heap (Kp Kp.refl Kp.below Kp.alloc Kp.drew Kp.setCell Kp.grown Kp.to fnOf)
open Go.Proofs.Ytamphgcpfncenaa.HeapS (HeapAt d0 ltP ltP_ord)
set_option linter.unusedSimpArgs false
set_option linter.unusedVariables false
section
variable {w0 w w' : World} {n s t P M cE TI TO SC cC SL cL H mw cw : Nat} {AE Aw : Option Addr} {FI FO : Nat → Option Addr × Nat} {l : List E} {D R : List Int} {L : List Sp} {wk : Int}
set_option maxRecDepth 100000 in
set_option maxHeartbeats 2000000 in
theorem key_any (h : LM w0 w n s t P M AE cE TI TO FI FO SC cC SL cL H l D R Aw mw cw L wk) {v : Nat} (hv : v < n) :
    Calls Try.prog 89 #[.pointer (some ⟨P, 0, none⟩), .int .i64 v] w fun e w' => e = .returned (.agg #[.int .i64 (min (dg D v) (dg R v)), .int .i64 (min (dg D v) (dg R v)), .int .i64 v]) ∧ Below w.heap.size w w' := by
  obtain ⟨c1, c2, _, _, zc, zl⟩ := h.cells hv
  obtain ⟨_, _, _, _, _, _, z6, z7, _, _, _, zp⟩ := h.zs
  have zv : (v : Int) < (n : Int) := by omega
  clear h
  generalize dg D (v : Int) = d at *
  generalize dg R (v : Int) = r at *
  obtain ⟨k, hk⟩ : ∃ k, min d r = k := ⟨_, rfl⟩
  have hif : (if r < d then r else d) = k := by split <;> omega
  rw [hk]
  clear hk
  go_enter Try.func89, Try.ntmps89
  go_upto_region 1 with fail
  go_quiet (fail)
  go_wp2
  refine bodyPost_ret (v := .agg #[.int .i64 k, .int .i64 k, .int .i64 v]) (by simp [results, Try.results89, go_sem]) rfl ?_
  exact ⟨rfl, (((below_drewN ((Below.refl _ _).alloc (Nat.le_refl _) _) nq).setCell (Nat.le_refl _) _).setCell (Nat.le_refl _) _).setCell (Nat.le_refl _) _⟩
theorem top_any {base H n c : Nat} {fn : Value} {A : Option Addr} {L : List Sp} {w : World} (h : HeapAt w base H fn A n c L) (hn : 0 < n) :
    Calls Try.prog 91 #[.pointer (some ⟨H, 0, none⟩)] w fun e w' => ∃ a b x, L.getD 0 d0 = (a, b, x) ∧ e = .returned (.agg #[.int .i64 a, .int .i64 b, .int .i64 x]) ∧ Below w.heap.size w w' := by
  obtain ⟨S, a, b, x, rfl, hS0, hS1, hSH, hg0, c00, c01, c02, f00, f01, f02⟩ := h.at_ hn
  have hc1 := blk_cell h.blk 1
  have hlt := h.lt
  simp only [List.getElem?_toArray, List.getElem?_cons_zero, List.getElem?_cons_succ] at hc1
  rw [Nat.zero_mul] at c00 c01 c02
  rw [Nat.zero_add] at c01 c02
  have z0 : (0 : Int) < (n : Int) := by omega
  clear h f00 f01 f02
  go_enter Try.func91, Try.ntmps91
  go_wp2
  exact bodyPost_ret (v := .agg #[.int .i64 a, .int .i64 b, .int .i64 x]) (by simp [results, Try.results91, go_sem]) rfl ⟨a, b, x, hg0, rfl, (Below.refl _ _).alloc (Nat.le_refl _) _⟩
/-- what put does -/
def PutSays (w0 : World) (n s t P M : Nat) (AE : Option Addr) (cE TI TO : Nat) (FI FO : Nat → Option Addr × Nat) (SC cC SL cL H : Nat) (l : List E) (D R : List Int) (Aw : Option Addr) (mw cw : Nat) (L : List Sp) (wk : Int) (v : Nat) (w1 : World) (e : Ending) (w' : World) : Prop :=
  (∃ r, e = .returned r) ∧ ∃ Aw' mw' cw' L', LM w0 w' n s t P M AE cE TI TO FI FO SC cC SL cL H l D R Aw' mw' cw' L' wk ∧ (∀ x ∈ L, x ∈ L') ∧ (∀ x ∈ L', x ∈ L ∨ x = ky D R v) ∧ (dg D v ≠ dg R v → ky D R v ∈ L') ∧ mw' ≤ mw + 1 ∧ KW w1 w' ∧ w1.heap.size ≤ w'.heap.size
set_option maxRecDepth 100000 in
set_option maxHeartbeats 4000000 in
theorem put_any (h : LM w0 w n s t P M AE cE TI TO FI FO SC cC SL cL H l D R Aw mw cw L wk) {v : Nat} (hv : v < n) (hmw : mw ≤ 4000000000000) :
    Calls Try.prog 58 #[.pointer (some ⟨P, 0, none⟩), .int .i64 v] w fun e w' => PutSays w0 n s t P M AE cE TI TO FI FO SC cC SL cL H l D R Aw mw cw L wk v w e w' := by
  obtain ⟨c1, c2, _, _, zc, zl⟩ := h.cells hv
  obtain ⟨_, _, _, _, _, _, z6, z7, z8, _, _, zp⟩ := h.zs
  have zv : (v : Int) < (n : Int) := by omega
  have HM := Lib.hid h
  by_cases hne : dg D v = dg R v
  · have hpost : PutSays w0 n s t P M AE cE TI TO FI FO SC cC SL cL H l D R Aw mw cw L wk v w (.returned (.tuple #[])) w := ⟨⟨_, rfl⟩, Aw, mw, cw, L, h, fun _ hx => hx, fun _ hx => .inl hx, fun hn => absurd hne hn, Nat.le_succ _, KW.refl w, Nat.le_refl _⟩
    have hpd : ∀ k, PutSays w0 n s t P M AE cE TI TO FI FO SC cC SL cL H l D R Aw mw cw L wk v w (.returned (.tuple #[])) (w.drewN k) := fun k => ⟨⟨_, rfl⟩, Aw, mw, cw, L, h.keep (below_drewN (Below.refl _ _) k), fun _ hx => hx, fun _ hx => .inl hx, fun hn => absurd hne hn, Nat.le_succ _, KW.below (below_drewN (Below.refl _ _) k), by simp⟩
    have HPD := Lib.hid hpd
    rw [← hne] at c2
    have hd : ((dg D v) != (dg D v)) = false := by simp
    clear h hne hpost hpd HM
    generalize dg D (v : Int) = d at *
    go_enter Try.func58, Try.ntmps58
    go_upto_region 0 with fail
    go_quiet (fail)
    go_wp2
    exact bodyPost_end (v := .tuple #[]) (by simp [results, Try.results58, go_sem]) rfl (HPD.out nq)
  · have hk := fun (W : World) (hW : Below w.heap.size w W) => key_any (h.keep hW) hv
    have hpu := fun (W : World) (hW : Below w.heap.size w W) => HeapS.push_any ltP ltP_ord HeapS.less_any w0.heap.size H Aw mw cw L (min (dg D v) (dg R v)) (min (dg D v) (dg R v)) v W (h.keep hW).heap h.hp (by omega) ((h.keep hW).lo.size)
    have hfin : ∀ (W w' : World) (A8 : Option Addr) (c8 : Nat) (L8 : List Sp) (r : Value), Below w.heap.size w W → HeapAt w' w0.heap.size H (fnOf 55) A8 (mw + 1) c8 L8 → L8.Perm ((min (dg D v) (dg R v), min (dg D v) (dg R v), (v : Int)) :: L) → HeapLaw.Hp d0 ltP L8 → Kp W w' H (Value.slice Aw mw cw).ownBlock → PutSays w0 n s t P M AE cE TI TO FI FO SC cC SL cL H l D R Aw mw cw L wk v w (.returned r) w' := fun W w' A8 c8 L8 r hW hh hpm hhp hkp =>
      ⟨⟨r, rfl⟩, A8, mw + 1, c8, L8, (h.keep hW).kp hkp hh hhp, fun x hx => hpm.symm.subset (List.mem_cons_of_mem _ hx), fun x hx => (List.mem_cons.1 (hpm.subset hx)).elim .inr .inl, fun _ => hpm.symm.subset (List.mem_cons_self ..), Nat.le_refl _, (KW.below hW).trans (KW.kp (h.keep hW).heap hkp), Nat.le_trans hW.size hkp.size⟩
    have HK := Lib.hid hk
    have HPU := Lib.hid hpu
    have HFIN := Lib.hid hfin
    have hd : ((dg D v) != (dg R v)) = true := by rw [bne_iff_ne]; exact hne
    clear h hne hk hpu hfin HM
    generalize dg D (v : Int) = d at *
    generalize dg R (v : Int) = r at *
    generalize min d r = k at *
    go_enter Try.func58, Try.ntmps58
    go_upto_region 0 with fail
    go_quiet (fail)
    go_wp2
    have HW1 : Below w.heap.size w (w.drewN nq) := below_drewN (Below.refl _ _) nq
    have zz : (w.drewN nq).cell? ⟨P, 8, none⟩ = some (.pointer (some ⟨H, 0, none⟩)) := z8
    clear z6 z7 z8 c1 c2
    have hz1 : (w.drewN nq).heap.size = w.heap.size := by simp
    generalize w.drewN nq = w1 at *
    have zp1 : P < w1.heap.size := by omega
    clear hz1
    go_region_held3 (fun w' => w'.cell? ⟨P, 8, none⟩ = some (.pointer (some ⟨H, 0, none⟩)))
      (first
        | go_keep
        | exact p8
        | exact q8)
      (first
        | (go_at_call 89; refine (HK.out _ HW1.drew).mono ?_; rintro e wd ⟨rfl, hbd⟩; have p8 : wd.cell? ⟨P, 8, none⟩ = some (.pointer (some ⟨H, 0, none⟩)) := (hbd.cell (p := ⟨P, 8, none⟩) zp1).trans zz; have HW2 : Below w.heap.size w wd := HW1.drew.trans (hbd.mono HW1.drew.size))
        | (go_at_call 88; refine (HPU.out _ HW2).mono ?_; rintro e we ⟨⟨r8, rfl⟩, A8, c8, L8, hh8, hpm8, hhp8, hkp8, hat8⟩; have q8 : we.cell? ⟨P, 8, none⟩ = some (.pointer (some ⟨H, 0, none⟩)) := (by obtain ⟨_, _, _, _, _, hm9, _⟩ := HFIN.out _ _ A8 c8 L8 r8 HW2 hh8 hpm8 hhp8 hkp8; exact hm9.zs.2.2.2.2.2.2.2.2.1)))
    all_goals
      go_wp2
      exact bodyPost_end (v := .tuple #[]) (by simp [results, Try.results58, go_sem]) rfl (HFIN.out _ _ A8 c8 L8 _ HW2 hh8 hpm8 hhp8 hkp8)
end
end Go.Proofs.Ytamphgcpfncenaa.Life
