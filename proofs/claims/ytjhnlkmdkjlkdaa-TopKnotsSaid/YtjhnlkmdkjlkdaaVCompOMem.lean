/- The memory of comp.Order: who lies where, and what each write leaves as it was. -/
import Derived.Test.YtjhnlkmdkjlkdaaVHeapComp
import Derived.Test.YtjhnlkmdkjlkdaaVCompOrd
import Derived.Test.YtjhnlkmdkjlkdaaVBellWalks
namespace Go.Proofs.Ytjhnlkmdkjlkdaa.CompO
open Go.RowKit Go.Proofs.Ytjhnlkmdkjlkdaa NetLaw BellLaw HeapLaw DagLaw CompLaw CompOrd Go.Proofs.Ytjhnlkmdkjlkdaa.Net Go.Proofs.Ytjhnlkmdkjlkdaa.Heap Go.Proofs.Ytjhnlkmdkjlkdaa.HeapComp
set_option linter.unusedSimpArgs false
set_option linter.unusedVariables false
theorem obs' (A : Option Addr) (n m c d : Nat) : (Value.slice A n c).ownBlock = (Value.slice A m d).ownBlock := by cases A <;> rfl
/-- the row's block -/
def ob (A : Option Addr) : Option Nat := (Value.slice A 0 0).ownBlock
theorem ob_eq (A : Option Addr) (n c : Nat) : (Value.slice A n c).ownBlock = ob A := obs' ..
theorem blk_kpI {w w' : World} {base H n c : Nat} {A : Option Addr} {L : List Int} {g : Nat} {cs : Array Value} {t : TypeId} {fr : Nat × Nat} (h : HI w base H A n c L) (hk : Kp w w' H (Value.slice A n c).ownBlock) (hg : w.heap[g]? = some (.cells cs t fr)) (h1 : 123 ≠ t) (h2 : 3 ≠ t) : w'.heap[g]? = some (.cells cs t fr) := by
  refine (hk.block g (lt_of_block hg) (fun e => ?_) (fun e => h.own.ne_ hg h2 e.symm)).trans hg
  subst e
  have := h.blk
  rw [hg] at this
  injection this with this
  injection this with _ ht _
  exact h1 ht.symm
theorem own_kpI {α : Type} {w w' : World} {base base' H n c sz : Nat} {cell : α → Nat → Value} {A : Option Addr} {L : List Int} {v : Value} {r : List α} (h : HI w base H A n c L) (hk : Kp w w' H (Value.slice A n c).ownBlock) (ho : Own w base' 3 sz cell v r) (hne : ∀ g, v.ownBlock = some g → (Value.slice A n c).ownBlock ≠ some g) : Own w' base' 3 sz cell v r := by
  refine ⟨ho.1, ?_⟩
  rcases ho.2 with h3 | ⟨g, cap, cur, rfl, hg, hh, rest⟩
  · exact .inl h3
  · refine .inr ⟨g, cap, cur, rfl, hg, (hk.block g (lt_of_block hh) (fun e => ?_) (fun e => hne g rfl e.symm)).trans hh, rest⟩
    subst e
    have := h.blk
    rw [hh] at this
    injection this with this
    injection this with _ ht _
    exact absurd ht (by decide)
/-- while those with nothing ahead are put in -/
structure Mm (w0 w : World) (n : Nat) (A : Option Addr) (c : Nat) (l : List E) (S H : Nat) (Ah : Option Addr) (m ch : Nat) (L D : List Int) : Prop where
  box : w.heap[w0.heap.size]? = some (.cells #[.int .i64 n, .slice A l.length c] 24 (0, 0))
  ahead : Own w w0.heap.size 3 1 ci (.slice (some ⟨S, 0, none⟩) n n) D
  dlen : D.length = n
  heap : HI w w0.heap.size H Ah m ch L
  sa : ob Ah ≠ some S
  lo : Below w0.heap.size w0 w
section
variable {w0 w w' : World} {n c S H m ch m' ch' : Nat} {A Ah Ah' : Option Addr} {l : List E} {L L' D : List Int}
theorem Mm.aheadS (h : Mm w0 w n A c l S H Ah m ch L D) : S < w.heap.size ∧ w0.heap.size ≤ S := by have := h.ahead.base_ S rfl; exact ⟨this.2, this.1⟩
theorem Mm.neH (h : Mm w0 w n A c l S H Ah m ch L D) : H ≠ S := fun e => h.ahead.ne_ (e ▸ h.heap.blk) (by decide) rfl
theorem Mm.alloc (h : Mm w0 w n A c l S H Ah m ch L D) (o : Obj) : Mm w0 (w.alloc o) n A c l S H Ah m ch L D :=
  ⟨blk_alloc h.box o, h.ahead.alloc o, h.dlen, h.heap.alloc o, h.sa, h.lo.alloc h.lo.size o⟩
theorem Mm.drewN (h : Mm w0 w n A c l S H Ah m ch L D) (k : Nat) : Mm w0 (w.drewN k) n A c l S H Ah m ch L D :=
  ⟨h.box, h.ahead.drewN k, h.dlen, h.heap.drewN k, h.sa, below_drewN h.lo k⟩
theorem Mm.keep (h : Mm w0 w n A c l S H Ah m ch L D) (hb : Below w.heap.size w w') : Mm w0 w' n A c l S H Ah m ch L D :=
  ⟨blk_below h.box hb (lt_of_block h.box), h.ahead.keep hb, h.dlen, h.heap.keep hb, h.sa, h.lo.trans (hb.mono h.lo.size)⟩
theorem Mm.kp (h : Mm w0 w n A c l S H Ah m ch L D) (hk : Kp w w' H (Value.slice Ah m ch).ownBlock) (hh : HI w' w0.heap.size H Ah' m' ch' L') (hat : ∀ g, ob Ah' = some g → ob Ah = some g ∨ w.heap.size ≤ g) : Mm w0 w' n A c l S H Ah' m' ch' L' D :=
  ⟨blk_kpI h.heap hk h.box (by decide) (by decide), own_kpI h.heap hk h.ahead (fun g hg e => h.sa (by rw [ob_eq] at e; rw [e]; exact hg.symm ▸ rfl)), h.dlen, hh, fun e => by
    rcases hat S e with h1 | h1
    · exact h.sa h1
    · have := h.aheadS.1; omega, h.lo.trans (hk.to h.lo.size h.heap.hb h.heap.own.lo)⟩
theorem Mm.set (h : Mm w0 w n A c l S H Ah m ch L D) (t : Nat) (ht : t < n) (x : Int) : Mm w0 (w.setCell ⟨S, t, none⟩ (.int .i64 x)) n A c l S H Ah m ch L (D.set t x) := by
  have hbx : w0.heap.size ≠ S := fun e => h.ahead.ne_ (e ▸ h.box) (by decide) rfl
  refine ⟨blk_far h.box hbx _, HeapComp.own_set1 h.dlen h.ahead t ht x, by simp [h.dlen], ⟨h.heap.hb, blk_far h.heap.blk h.neH _, h.heap.own.setCell (fun e => h.sa (by rw [ob_eq] at e; exact e)) _, h.heap.len⟩, h.sa, h.lo.setCell h.aheadS.2 _⟩
end
/-- while the order grows -/
structure Mq (w0 w : World) (n : Nat) (A : Option Addr) (c : Nat) (l : List E) (S H O : Nat) (Ah : Option Addr) (m ch : Nat) (L D C : List Int) (Ao : Option Addr) (mo co : Nat) (out : List Int) : Prop where
  mm : Mm w0 w n A c l S H Ah m ch L D
  of_ : Own w w0.heap.size 3 1 ci (.slice (some ⟨O, 0, none⟩) n n) C
  ofl : C.length = n
  os : O ≠ S
  oh : ob Ah ≠ some O
  ow : Own w w0.heap.size 3 1 ci (.slice Ao mo co) out
  olen : out.length = mo
  so : ob Ao ≠ some S
  soo : ob Ao ≠ some O
  soh : ∀ g, ob Ao = some g → ob Ah ≠ some g
section
variable {w0 w w' : World} {n c S H O m ch m' ch' mo co co' : Nat} {A Ah Ah' Ao Ao' : Option Addr} {l : List E} {L L' D C out : List Int}
theorem Mq.outlt (h : Mq w0 w n A c l S H O Ah m ch L D C Ao mo co out) {g : Nat} (hg : ob Ao = some g) : g < w.heap.size := (h.ow.base_ g ((obs' ..).trans hg)).2
theorem Mq.oflt (h : Mq w0 w n A c l S H O Ah m ch L D C Ao mo co out) : O < w.heap.size := (h.of_.base_ O rfl).2
theorem Mq.heaplt (h : Mq w0 w n A c l S H O Ah m ch L D C Ao mo co out) {g : Nat} (hg : ob Ah = some g) : g < w.heap.size := (h.mm.heap.own.base_ g ((obs' ..).trans hg)).2
theorem Mq.keep (h : Mq w0 w n A c l S H O Ah m ch L D C Ao mo co out) (hb : Below w.heap.size w w') : Mq w0 w' n A c l S H O Ah m ch L D C Ao mo co out :=
  ⟨h.mm.keep hb, h.of_.keep hb, h.ofl, h.os, h.oh, h.ow.keep hb, h.olen, h.so, h.soo, h.soh⟩
theorem Mq.alloc (h : Mq w0 w n A c l S H O Ah m ch L D C Ao mo co out) (o : Obj) : Mq w0 (w.alloc o) n A c l S H O Ah m ch L D C Ao mo co out := h.keep ((Below.refl _ _).alloc (Nat.le_refl _) _)
theorem Mq.drewN (h : Mq w0 w n A c l S H O Ah m ch L D C Ao mo co out) (k : Nat) : Mq w0 (w.drewN k) n A c l S H O Ah m ch L D C Ao mo co out := h.keep (below_drewN (Below.refl _ _) k)
theorem Mq.kp (h : Mq w0 w n A c l S H O Ah m ch L D C Ao mo co out) (hk : Kp w w' H (Value.slice Ah m ch).ownBlock) (hh : HI w' w0.heap.size H Ah' m' ch' L') (hat : ∀ g, ob Ah' = some g → ob Ah = some g ∨ w.heap.size ≤ g) : Mq w0 w' n A c l S H O Ah' m' ch' L' D C Ao mo co out := by
  refine ⟨h.mm.kp hk hh hat, own_kpI h.mm.heap hk h.of_ (fun g hg e => h.oh (by rw [ob_eq] at e; rw [e]; exact hg.symm ▸ rfl)), h.ofl, h.os, fun e => ?_, own_kpI h.mm.heap hk h.ow (fun g hg e => h.soh g ((obs' ..).trans hg) ((ob_eq ..).symm.trans e)), h.olen, h.so, h.soo, fun g hg e => ?_⟩
  · rcases hat O e with h1 | h1
    · exact h.oh h1
    · have := h.oflt; omega
  · rcases hat g e with h1 | h1
    · exact h.soh g hg h1
    · have := h.outlt hg; omega
theorem Mq.set (h : Mq w0 w n A c l S H O Ah m ch L D C Ao mo co out) (t : Nat) (ht : t < n) (x : Int) : Mq w0 (w.setCell ⟨S, t, none⟩ (.int .i64 x)) n A c l S H O Ah m ch L (D.set t x) C Ao mo co out :=
  ⟨h.mm.set t ht x, h.of_.setCell (fun e => h.os (by injection e)) _, h.ofl, h.os, h.oh, h.ow.setCell (fun e => h.so ((ob_eq ..).symm.trans e)) _, h.olen, h.so, h.soo, h.soh⟩
theorem Mq.grow (h : Mq w0 w n A c l S H O Ah m ch L D C Ao mo co out) {out' : List Int} {mo' : Nat} (hg : w.grownBy w' (Value.slice Ao mo co).ownBlock) (ho : Own w' w0.heap.size 3 1 ci (.slice Ao' mo' co') out') (hl : out'.length = mo') (hat : ob Ao' = ob Ao ∨ ∃ g, ob Ao' = some g ∧ w.heap.size ≤ g) : Mq w0 w' n A c l S H O Ah m ch L D C Ao' mo' co' out' := by
  have hne : ∀ (g : Nat) (cs' : Array Value) (t : TypeId), w.heap[g]? = some (.cells cs' t (0, 0)) → 3 ≠ t → w'.heap[g]? = some (.cells cs' t (0, 0)) := fun g cs' t h1 h2 => blk_grown h1 hg (h.ow.ne_ h1 h2)
  have hsep : ∀ {α : Type} (sz : Nat) (cell : α → Nat → Value) (base' : Nat) (v : Value) (r : List α), Own w base' 3 sz cell v r → (∀ g, v.ownBlock = some g → ob Ao ≠ some g) → Own w' base' 3 sz cell v r := fun sz cell base' v r h1 h2 => h1.kept hg (by
    cases hx : v.ownBlock with
    | none => exact .inl rfl
    | some g => exact .inr (fun e => h2 g hx (by rw [ob_eq] at e; exact e.symm)))
  have hS := h.mm.aheadS.1
  refine ⟨⟨hne _ _ _ h.mm.box (by decide), hsep _ _ _ _ _ h.mm.ahead (fun g hg' e => h.so (by rw [e]; exact hg'.symm ▸ rfl)), h.mm.dlen, ⟨h.mm.heap.hb, hne _ _ _ h.mm.heap.blk (by decide), hsep _ _ _ _ _ h.mm.heap.own (fun g hg' e => h.soh g e ((obs' ..).trans hg')), h.mm.heap.len⟩, h.mm.sa, h.mm.lo.grown hg h.mm.lo.size h.ow.lo⟩, hsep _ _ _ _ _ h.of_ (fun g hg' e => h.soo (by rw [e]; exact hg'.symm ▸ rfl)), h.ofl, h.os, h.oh, ho, hl, ?_, ?_, ?_⟩
  · rcases hat with h1 | ⟨g, h1, h2⟩
    · rw [h1]; exact h.so
    · rw [h1]; intro e; injection e with e; omega
  · rcases hat with h1 | ⟨g, h1, h2⟩
    · rw [h1]; exact h.soo
    · rw [h1]; intro e; injection e with e; have := h.oflt; omega
  · intro g hg' e
    rcases hat with h1 | ⟨g', h1, h2⟩
    · exact h.soh g (h1.symm.trans hg') e
    · rw [h1] at hg'; injection hg' with hg'
      have := h.heaplt e; omega
end
/-- whose knot, by the row -/
def cmf (C : List Int) : Int → Int := fun v => dg C v
/-- who waits of the first k -/
structure Pk (n k : Nat) (C D L : List Int) : Prop where
  nd : L.Nodup
  mem : ∀ v : Int, v ∈ L ↔ 0 ≤ v ∧ v < k ∧ cmf C v = v ∧ dg D v = 0
theorem Pk.zero (n : Nat) (C D : List Int) : Pk n 0 C D [] := ⟨List.nodup_nil, fun v => ⟨fun h => (by cases h), fun h => by omega⟩⟩
theorem Pk.no {n k : Nat} {C D L : List Int} (h : Pk n k C D L) (hk : ¬ (cmf C k = k ∧ dg D (k : Int) = 0)) : Pk n (k + 1) C D L := ⟨h.nd, fun v => by
  rw [h.mem]
  constructor
  · rintro ⟨a, b, c⟩; exact ⟨a, by omega, c⟩
  · rintro ⟨a, b, c⟩
    refine ⟨a, ?_, c⟩
    by_cases e : v = k
    · subst e; exact absurd c hk
    · omega⟩
theorem Pk.yes {n k : Nat} {C D L L' : List Int} (h : Pk n k C D L) (hk : cmf C k = k ∧ dg D (k : Int) = 0) (hp : L'.Perm ((k : Int) :: L)) : Pk n (k + 1) C D L' := by
  refine ⟨hp.nodup_iff.2 (List.nodup_cons.2 ⟨fun hm => ?_, h.nd⟩), fun v => ?_⟩
  · have := ((h.mem _).1 hm).2.1; omega
  · rw [hp.mem_iff, List.mem_cons, h.mem]
    constructor
    · rintro (rfl | ⟨a, b, c⟩)
      · exact ⟨by omega, by omega, hk⟩
      · exact ⟨a, by omega, c⟩
    · rintro ⟨a, b, c⟩
      by_cases e : v = k
      · exact .inl e
      · exact .inr ⟨a, by omega, c⟩
theorem Pk.start {n : Nat} {l : List E} {C D L : List Int} (h : Pk n n C D L) (hl : D.length = n) (hc : ∀ v : Int, 0 ≤ v → v < n → dg D v = ((tdn l v : Nat) : Int)) : KG (fun v => cmf C v = v) n l D L [] [] :=
  KG.start hl hc h.nd fun v => by rw [h.mem]; constructor
                                  · rintro ⟨a, b, c, d⟩; exact ⟨⟨a, b⟩, c, d⟩
                                  · rintro ⟨⟨a, b⟩, c, d⟩; exact ⟨a, b, c, d⟩
/-- how many edges between knots lead to each, of the first k -/
structure Ck (n k : Nat) (l : List E) (C D : List Int) : Prop where
  len : D.length = n
  at_ : ∀ v : Int, 0 ≤ v → v < n → dg D v = ((tdn (cl (cmf C) (l.take k)) v : Nat) : Int)
theorem Ck.zero (n : Nat) (l : List E) (C : List Int) : Ck n 0 l C (List.replicate n 0) := ⟨by simp, fun v v0 v1 => by
  unfold dg
  rw [List.getD_eq_getElem?_getD, List.getElem?_replicate]
  split <;> simp [tdn, cl]⟩
theorem Ck.step {n k : Nat} {l : List E} {C D : List Int} (h : Ck n k l C D) (hk : k < l.length) (t : Nat) (hne : cmf C l[k].1 ≠ cmf C l[k].2.1) (ht : cmf C l[k].2.1 = t) (htn : t < n) : Ck n (k + 1) l C (D.set t (dg D (t : Int) + 1)) := by
  refine ⟨by simp [h.len], fun v v0 v1 => ?_⟩
  have hs := dg_set (D := D) (t := (t : Int)) (v := v) (x := dg D (t : Int) + 1) (by omega) (by rw [h.len]; omega) v0
  rw [Int.toNat_natCast] at hs
  rw [hs, List.take_succ_eq_append_getElem hk, cl_append, cl_cons, if_pos hne, cl_nil, tdn_snoc, ht]
  by_cases e : v = (t : Int)
  · rw [if_pos e, if_pos e.symm, e, h.at_ _ (by omega) (by omega)]; omega
  · rw [if_neg e, if_neg (fun x => e x.symm), h.at_ v v0 v1]; rfl
theorem Ck.skip {n k : Nat} {l : List E} {C D : List Int} (h : Ck n k l C D) (hk : k < l.length) (he : cmf C l[k].1 = cmf C l[k].2.1) : Ck n (k + 1) l C D := by
  refine ⟨h.len, fun v v0 v1 => ?_⟩
  rw [List.take_succ_eq_append_getElem hk, cl_append, cl_cons, if_neg (fun x => x he), cl_nil, List.append_nil]
  exact h.at_ v v0 v1
theorem Ck.bd {n k : Nat} {l : List E} {C D : List Int} (h : Ck n k l C D) (hl : l.length ≤ 600) {v : Int} (v0 : 0 ≤ v) (v1 : v < n) : 0 ≤ dg D v ∧ dg D v ≤ 600 := by
  rw [h.at_ v v0 v1]
  have := tdn_le (cl (cmf C) (l.take k)) v
  have := cl_len (cmf C) (l.take k)
  have : (l.take k).length ≤ l.length := by rw [List.length_take]; omega
  omega
theorem kg_bd {R : Int → Prop} {N : Nat} {l todo : List E} {D L out : List Int} (h : KG R N l D L out todo) (hl : l.length ≤ 600) (ht : todo.length ≤ 600) {v : Int} (v0 : 0 ≤ v) (v1 : v < N) : 0 ≤ dg D v ∧ dg D v ≤ 1200 := by
  rw [h.cnt v v0 v1]
  have h1 := tdn_le todo v
  have h2 : inn l out v ≤ l.length := List.countP_le_length
  omega
theorem tk_len (cm : Int → Int) (c : Int) (l : List E) : (tk cm c l).length ≤ l.length := Nat.le_trans (List.length_filter_le _ _) (cl_len cm l)
end Go.Proofs.Ytjhnlkmdkjlkdaa.CompO
