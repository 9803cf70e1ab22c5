/- The memory of dag.Order: who lies where, and what each write leaves as it was. -/
import Derived.Test.YtjhnlkmdkjlkdaaHeapDag
import Derived.Test.YtjhnlkmdkjlkdaaDijkRun
import Derived.Test.YtjhnlkmdkjlkdaaDagLaw
namespace Go.Proofs.Ytjhnlkmdkjlkdaa.Dag
open Go.RowKit Go.Proofs.Ytjhnlkmdkjlkdaa NetLaw BellLaw HeapLaw DagLaw Go.Proofs.Ytjhnlkmdkjlkdaa.Net Go.Proofs.Ytjhnlkmdkjlkdaa.Heap Go.Proofs.Ytjhnlkmdkjlkdaa.HeapDag
set_option linter.unusedSimpArgs false
set_option linter.unusedVariables false
theorem obs' (A : Option Addr) (n m c d : Nat) : (Value.slice A n c).ownBlock = (Value.slice A m d).ownBlock := by cases A <;> rfl
/-- the row's block -/
def ob (A : Option Addr) : Option Nat := (Value.slice A 0 0).ownBlock
theorem ob_eq (A : Option Addr) (n c : Nat) : (Value.slice A n c).ownBlock = ob A := obs' ..
theorem blk_kpI {w w' : World} {base H n c : Nat} {A : Option Addr} {L : List Int} {g : Nat} {cs : Array Value} {t : TypeId} {fr : Nat × Nat} (h : HI w base H A n c L) (hk : Kp w w' H (Value.slice A n c).ownBlock) (hg : w.heap[g]? = some (.cells cs t fr)) (h1 : 123 ≠ t) (h2 : 3 ≠ t) : w'.heap[g]? = some (.cells cs t fr) := by
  refine (hk.block g (lt_of_block hg) (fun e => ?_) (fun e => h.own.ne_ hg h2 e.symm)).trans hg
  subst e
  have := h.blk
  rw [hg] at this
  injection this with this
  injection this with _ ht _
  exact h1 ht.symm
theorem own_kpI {α : Type} {w w' : World} {base base' H n c sz : Nat} {cell : α → Nat → Value} {A : Option Addr} {L : List Int} {v : Value} {r : List α} (h : HI w base H A n c L) (hk : Kp w w' H (Value.slice A n c).ownBlock) (ho : Own w base' 3 sz cell v r) (hne : ∀ g, v.ownBlock = some g → (Value.slice A n c).ownBlock ≠ some g) : Own w' base' 3 sz cell v r := by
  refine ⟨ho.1, ?_⟩
  rcases ho.2 with h3 | ⟨g, cap, cur, rfl, hg, hh, rest⟩
  · exact .inl h3
  · refine .inr ⟨g, cap, cur, rfl, hg, (hk.block g (lt_of_block hh) (fun e => ?_) (fun e => hne g rfl e.symm)).trans hh, rest⟩
    subst e
    have := h.blk
    rw [hh] at this
    injection this with this
    injection this with _ ht _
    exact absurd ht (by decide)
/-- while those with nothing ahead are put in -/
structure Mm (w0 w : World) (n : Nat) (A : Option Addr) (c : Nat) (l : List E) (S H : Nat) (Ah : Option Addr) (m ch : Nat) (L D : List Int) : Prop where
  box : w.heap[w0.heap.size]? = some (.cells #[.int .i64 n, .slice A l.length c] 24 (0, 0))
  ahead : Own w w0.heap.size 3 1 ci (.slice (some ⟨S, 0, none⟩) n n) D
  dlen : D.length = n
  heap : HI w w0.heap.size H Ah m ch L
  sa : ob Ah ≠ some S
  lo : Below w0.heap.size w0 w
section
variable {w0 w w' : World} {n c S H m ch m' ch' : Nat} {A Ah Ah' : Option Addr} {l : List E} {L L' D : List Int}
theorem Mm.aheadS (h : Mm w0 w n A c l S H Ah m ch L D) : S < w.heap.size ∧ w0.heap.size ≤ S := by have := h.ahead.base_ S rfl; exact ⟨this.2, this.1⟩
theorem Mm.neH (h : Mm w0 w n A c l S H Ah m ch L D) : H ≠ S := fun e => h.ahead.ne_ (e ▸ h.heap.blk) (by decide) rfl
theorem Mm.alloc (h : Mm w0 w n A c l S H Ah m ch L D) (o : Obj) : Mm w0 (w.alloc o) n A c l S H Ah m ch L D :=
  ⟨blk_alloc h.box o, h.ahead.alloc o, h.dlen, h.heap.alloc o, h.sa, h.lo.alloc h.lo.size o⟩
theorem Mm.drewN (h : Mm w0 w n A c l S H Ah m ch L D) (k : Nat) : Mm w0 (w.drewN k) n A c l S H Ah m ch L D :=
  ⟨h.box, h.ahead.drewN k, h.dlen, h.heap.drewN k, h.sa, below_drewN h.lo k⟩
theorem Mm.keep (h : Mm w0 w n A c l S H Ah m ch L D) (hb : Below w.heap.size w w') : Mm w0 w' n A c l S H Ah m ch L D :=
  ⟨blk_below h.box hb (lt_of_block h.box), h.ahead.keep hb, h.dlen, h.heap.keep hb, h.sa, h.lo.trans (hb.mono h.lo.size)⟩
theorem Mm.kp (h : Mm w0 w n A c l S H Ah m ch L D) (hk : Kp w w' H (Value.slice Ah m ch).ownBlock) (hh : HI w' w0.heap.size H Ah' m' ch' L') (hat : ∀ g, ob Ah' = some g → ob Ah = some g ∨ w.heap.size ≤ g) : Mm w0 w' n A c l S H Ah' m' ch' L' D :=
  ⟨blk_kpI h.heap hk h.box (by decide) (by decide), own_kpI h.heap hk h.ahead (fun g hg e => h.sa (by rw [ob_eq] at e; rw [e]; exact hg.symm ▸ rfl)), h.dlen, hh, fun e => by
    rcases hat S e with h1 | h1
    · exact h.sa h1
    · have := h.aheadS.1; omega, h.lo.trans (hk.to h.lo.size h.heap.hb h.heap.own.lo)⟩
theorem Mm.set (h : Mm w0 w n A c l S H Ah m ch L D) (t : Nat) (ht : t < n) (x : Int) : Mm w0 (w.setCell ⟨S, t, none⟩ (.int .i64 x)) n A c l S H Ah m ch L (D.set t x) := by
  have hbx : w0.heap.size ≠ S := fun e => h.ahead.ne_ (e ▸ h.box) (by decide) rfl
  refine ⟨blk_far h.box hbx _, HeapDag.own_set1 h.dlen h.ahead t ht x, by simp [h.dlen], ⟨h.heap.hb, blk_far h.heap.blk h.neH _, h.heap.own.setCell (fun e => h.sa (by rw [ob_eq] at e; exact e)) _, h.heap.len⟩, h.sa, h.lo.setCell h.aheadS.2 _⟩
end
/-- while the order grows -/
structure Mo (w0 w : World) (n : Nat) (A : Option Addr) (c : Nat) (l : List E) (S T H : Nat) (F : Nat → Option Addr × Nat) (Ah : Option Addr) (m ch : Nat) (L D : List Int) (Ao : Option Addr) (mo co : Nat) (out : List Int) : Prop where
  mm : Mm w0 w n A c l S H Ah m ch L D
  tab : Tab w w0.heap.size T n F (ol l l.length)
  st : ∀ v, v < n → ob (F v).1 ≠ some S
  sh : ∀ v, v < n → ∀ g, ob (F v).1 = some g → ob Ah ≠ some g
  ow : Own w w0.heap.size 3 1 ci (.slice Ao mo co) out
  olen : out.length = mo
  so : ob Ao ≠ some S
  soh : ∀ g, ob Ao = some g → ob Ah ≠ some g
  sot : ∀ v, v < n → ∀ g, ob (F v).1 = some g → ob Ao ≠ some g
section
variable {w0 w w' : World} {n c S T H m ch m' ch' mo co co' : Nat} {A Ah Ah' Ao Ao' : Option Addr} {F : Nat → Option Addr × Nat} {l : List E} {L L' D out : List Int}
theorem Mo.rowlt (h : Mo w0 w n A c l S T H F Ah m ch L D Ao mo co out) {v : Nat} (hv : v < n) {g : Nat} (hg : ob (F v).1 = some g) : g < w.heap.size := ((h.tab.own v hv).base_ g ((obs' ..).trans hg)).2
theorem Mo.outlt (h : Mo w0 w n A c l S T H F Ah m ch L D Ao mo co out) {g : Nat} (hg : ob Ao = some g) : g < w.heap.size := (h.ow.base_ g ((obs' ..).trans hg)).2
theorem Mo.heaplt (h : Mo w0 w n A c l S T H F Ah m ch L D Ao mo co out) {g : Nat} (hg : ob Ah = some g) : g < w.heap.size := (h.mm.heap.own.base_ g ((obs' ..).trans hg)).2
theorem Mo.neT (h : Mo w0 w n A c l S T H F Ah m ch L D Ao mo co out) : T ≠ S ∧ T ≠ H := by
  obtain ⟨cs, hb, _⟩ := h.tab.blk
  refine ⟨fun e => h.mm.ahead.ne_ (e ▸ hb) (by decide) rfl, fun e => ?_⟩
  subst e
  have := h.mm.heap.blk
  rw [hb] at this
  injection this with this
  injection this with _ ht _
  exact absurd ht (by decide)
theorem Mo.alloc (h : Mo w0 w n A c l S T H F Ah m ch L D Ao mo co out) (o : Obj) : Mo w0 (w.alloc o) n A c l S T H F Ah m ch L D Ao mo co out :=
  ⟨h.mm.alloc o, h.tab.alloc o, h.st, h.sh, h.ow.alloc o, h.olen, h.so, h.soh, h.sot⟩
theorem Mo.drewN (h : Mo w0 w n A c l S T H F Ah m ch L D Ao mo co out) (k : Nat) : Mo w0 (w.drewN k) n A c l S T H F Ah m ch L D Ao mo co out :=
  ⟨h.mm.drewN k, ⟨h.tab.lo, h.tab.blk, h.tab.own, h.tab.sep⟩, h.st, h.sh, h.ow.drewN k, h.olen, h.so, h.soh, h.sot⟩
theorem Mo.kp (h : Mo w0 w n A c l S T H F Ah m ch L D Ao mo co out) (hk : Kp w w' H (Value.slice Ah m ch).ownBlock) (hh : HI w' w0.heap.size H Ah' m' ch' L') (hat : ∀ g, ob Ah' = some g → ob Ah = some g ∨ w.heap.size ≤ g) : Mo w0 w' n A c l S T H F Ah' m' ch' L' D Ao mo co out := by
  obtain ⟨cs, hb, hs, hc⟩ := h.tab.blk
  refine ⟨h.mm.kp hk hh hat, ⟨h.tab.lo, ⟨cs, blk_kpI h.mm.heap hk hb (by decide) (by decide), hs, hc⟩, fun v hv => own_kpI h.mm.heap hk (h.tab.own v hv) (fun g hg e => h.sh v hv g ((obs' ..).trans hg) ((ob_eq ..).symm.trans e)), h.tab.sep⟩, h.st, fun v hv g hg e => ?_, own_kpI h.mm.heap hk h.ow (fun g hg e => h.soh g ((obs' ..).trans hg) ((ob_eq ..).symm.trans e)), h.olen, h.so, fun g hg e => ?_, h.sot⟩
  · rcases hat g e with h1 | h1
    · exact h.sh v hv g hg h1
    · have := h.rowlt hv hg; omega
  · rcases hat g e with h1 | h1
    · exact h.soh g hg h1
    · have := h.outlt hg; omega
theorem Mo.set (h : Mo w0 w n A c l S T H F Ah m ch L D Ao mo co out) (t : Nat) (ht : t < n) (x : Int) : Mo w0 (w.setCell ⟨S, t, none⟩ (.int .i64 x)) n A c l S T H F Ah m ch L (D.set t x) Ao mo co out := by
  obtain ⟨cs, hb, hs, hc⟩ := h.tab.blk
  exact ⟨h.mm.set t ht x, ⟨h.tab.lo, ⟨cs, blk_far hb h.neT.1 _, hs, hc⟩, fun v hv => (h.tab.own v hv).setCell (fun e => h.st v hv ((ob_eq ..).symm.trans e)) _, h.tab.sep⟩, h.st, h.sh, h.ow.setCell (fun e => h.so ((ob_eq ..).symm.trans e)) _, h.olen, h.so, h.soh, h.sot⟩
theorem Mo.grow (h : Mo w0 w n A c l S T H F Ah m ch L D Ao mo co out) {out' : List Int} {mo' : Nat} (hg : w.grownBy w' (Value.slice Ao mo co).ownBlock) (ho : Own w' w0.heap.size 3 1 ci (.slice Ao' mo' co') out') (hl : out'.length = mo') (hat : ob Ao' = ob Ao ∨ ∃ g, ob Ao' = some g ∧ w.heap.size ≤ g) : Mo w0 w' n A c l S T H F Ah m ch L D Ao' mo' co' out' := by
  obtain ⟨cs, hb, hs, hc⟩ := h.tab.blk
  have hne : ∀ (g : Nat) (cs' : Array Value) (t : TypeId), w.heap[g]? = some (.cells cs' t (0, 0)) → 3 ≠ t → w'.heap[g]? = some (.cells cs' t (0, 0)) := fun g cs' t h1 h2 => blk_grown h1 hg (h.ow.ne_ h1 h2)
  have hsep : ∀ {α : Type} (sz : Nat) (cell : α → Nat → Value) (base' : Nat) (v : Value) (r : List α), Own w base' 3 sz cell v r → (∀ g, v.ownBlock = some g → ob Ao ≠ some g) → Own w' base' 3 sz cell v r := fun sz cell base' v r h1 h2 => h1.kept hg (by
    cases hx : v.ownBlock with
    | none => exact .inl rfl
    | some g => exact .inr (fun e => h2 g hx (by rw [ob_eq] at e; exact e.symm)))
  have hS := h.mm.aheadS.1
  refine ⟨⟨hne _ _ _ h.mm.box (by decide), hsep _ _ _ _ _ h.mm.ahead (fun g hg' e => h.so (by rw [e]; exact hg'.symm ▸ rfl)), h.mm.dlen, ⟨h.mm.heap.hb, hne _ _ _ h.mm.heap.blk (by decide), hsep _ _ _ _ _ h.mm.heap.own (fun g hg' e => h.soh g e ((obs' ..).trans hg')), h.mm.heap.len⟩, h.mm.sa, h.mm.lo.grown hg h.mm.lo.size h.ow.lo⟩,
    ⟨h.tab.lo, ⟨cs, hne _ _ _ hb (by decide), hs, hc⟩, fun v hv => hsep _ _ _ _ _ (h.tab.own v hv) (fun g hg' e => h.sot v hv g ((obs' ..).trans hg') e), h.tab.sep⟩, h.st, h.sh, ho, hl, ?_, ?_, ?_⟩
  · rcases hat with h1 | ⟨g, h1, h2⟩
    · rw [h1]; exact h.so
    · rw [h1]; intro e; injection e with e; omega
  · intro g hg' e
    rcases hat with h1 | ⟨g', h1, h2⟩
    · exact h.soh g (h1.symm.trans hg') e
    · rw [h1] at hg'; injection hg' with hg'
      have := h.heaplt e; omega
  · intro v hv g hg' e
    rcases hat with h1 | ⟨g', h1, h2⟩
    · exact h.sot v hv g hg' (h1.symm.trans e)
    · rw [h1] at e; injection e with e
      have := h.rowlt hv hg'; omega
end
/-- the edges that leave v -/
theorem td_filter (l : List E) (v : Nat) : Dijk.td l (ol l l.length v) = l.filter fun e => decide (e.1 = (v : Int)) := by
  have key : ∀ k, k ≤ l.length → Dijk.td l (ol l k v) = (l.take k).filter fun e => decide (e.1 = (v : Int)) := by
    intro k
    induction k with
    | zero => intro _; rfl
    | succ k ih =>
      intro hk
      have hlt : k < l.length := by omega
      have hg : l.getD k (0, 0, 0) = l[k] := by rw [List.getD_eq_getElem?_getD, List.getElem?_eq_getElem hlt]; rfl
      rw [ol_succ, List.take_succ_eq_append_getElem hlt, List.filter_append, ← ih (by omega), hg]
      by_cases h : l[k].1 = (v : Int)
      · rw [if_pos h]
        simp only [Dijk.td, List.map_append, List.map_cons, List.map_nil, Int.toNat_natCast, hg, List.filter_cons, List.filter_nil, h, decide_true, if_true]
      · rw [if_neg h]
        simp [h, Dijk.td]
  have := key l.length (Nat.le_refl _)
  rwa [List.take_length] at this
end Go.Proofs.Ytjhnlkmdkjlkdaa.Dag
