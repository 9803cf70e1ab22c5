/- The memory of star.Search: who lies where, and what each write leaves as it was. -/
import Derived.Test.YtbgkkmcobijkgaaVStarLaw
import Derived.Test.YtbgkkmcobijkgaaVHeapPlace
import Derived.Test.YtbgkkmcobijkgaaVNetOuts
import Derived.Test.YtbgkkmcobijkgaaVFlowMem
namespace Go.Proofs.Ytbgkkmcobijkgaa.Star
open Go.RowKit Go.Proofs.Ytbgkkmcobijkgaa NetLaw BellLaw StarLaw Go.Proofs.Ytbgkkmcobijkgaa.Net Go.Proofs.Ytbgkkmcobijkgaa.Std Go.Proofs.Ytbgkkmcobijkgaa.Flow
open Go.Proofs.Ytbgkkmcobijkgaa.Heap (Kp Kp.refl Kp.below Kp.alloc Kp.drew Kp.setCell Kp.grown Kp.to fnOf)
open Go.Proofs.Ytbgkkmcobijkgaa.HeapP (HeapAt)
set_option linter.unusedSimpArgs false
set_option linter.unusedVariables false
abbrev Pl := Int × Int × Int
section
variable {w w' : World} {base base' H n c : Nat} {fn : Value} {A : Option Addr} {L : List Pl}
theorem blk_kp {g : Nat} {cs : Array Value} {t : TypeId} {fr : Nat × Nat} (h : HeapAt w base H fn A n c L) (hk : Kp w w' H (Value.slice A n c).ownBlock) (hg : w.heap[g]? = some (.cells cs t fr)) (h1 : 152 ≠ t) (h2 : 127 ≠ t) : w'.heap[g]? = some (.cells cs t fr) := by
  refine (hk.block g (lt_of_block hg) (fun e => ?_) (fun e => h.own.ne_ hg h2 e.symm)).trans hg
  subst e
  have := h.blk
  rw [hg] at this
  injection this with this
  injection this with _ ht _
  exact h1 ht.symm
theorem own_kp {α : Type} {sz : Nat} {cell : α → Nat → Value} {e : TypeId} {v : Value} {r : List α} (h : HeapAt w base H fn A n c L) (hk : Kp w w' H (Value.slice A n c).ownBlock) (ho : Own w base' e sz cell v r) (h1 : 152 ≠ e) (h2 : 127 ≠ e) : Own w' base' e sz cell v r := by
  refine ⟨ho.1, ?_⟩
  rcases ho.2 with h3 | ⟨g, cap, cur, rfl, hg, hh, rest⟩
  · exact .inl h3
  · exact .inr ⟨g, cap, cur, rfl, hg, blk_kp h hk hh h1 h2, rest⟩
theorem tab_kp {S m : Nat} {F : Nat → Option Addr × Nat} {Ls : Nat → List Int} (h : HeapAt w base H fn A n c L) (hk : Kp w w' H (Value.slice A n c).ownBlock) (ht : Tab w base' S m F Ls) : Tab w' base' S m F Ls := by
  obtain ⟨cs, hb, hs, hc⟩ := ht.blk
  exact ⟨ht.lo, ⟨cs, blk_kp h hk hb (by decide) (by decide), hs, hc⟩, fun v hv => own_kp h hk (ht.own v hv) (by decide) (by decide), ht.sep⟩
theorem tab_far {S m : Nat} {F : Nat → Option Addr × Nat} {Ls : Nat → List Int} {p : Addr} (ht : Tab w base' S m F Ls) (h1 : p.block ≠ S) (h2 : ∀ v, v < m → (Value.slice (F v).1 0 0).ownBlock ≠ some p.block) (u : Value) : Tab (w.setCell p u) base' S m F Ls := by
  obtain ⟨cs, hb, hs, hc⟩ := ht.blk
  exact ⟨ht.lo, ⟨cs, blk_far hb (fun e => h1 e.symm) u, hs, hc⟩, fun v hv => (ht.own v hv).setCell (fun e => h2 v hv ((obs ..).trans e)) u, ht.sep⟩
theorem heap_far {p : Addr} {t : TypeId} {cs : Array Value} (h : HeapAt w base H fn A n c L) (hp : w.heap[p.block]? = some (.cells cs t (0, 0))) (h1 : 152 ≠ t) (h2 : 127 ≠ t) (u : Value) : HeapAt (w.setCell p u) base H fn A n c L := by
  have hne : H ≠ p.block := fun e => by
    have hb := h.blk
    rw [e, hp] at hb
    injection hb with hb
    injection hb with _ ht _
    exact h1 ht.symm
  exact ⟨h.hb, blk_far h.blk hne u, h.own.setCell (h.own.ne_ hp h2) u, h.len⟩
theorem heap_mono {base' : Nat} (h : HeapAt w base H fn A n c L) (hb : base' ≤ base) : HeapAt w base' H fn A n c L := ⟨Nat.le_trans hb h.hb, h.blk, h.own.mono hb, h.len⟩
end
/-- the block of an own row of ints or bools that is there -/
theorem own_blk {α : Type} {w : World} {b : Nat} {e : TypeId} {sz : Nat} {cell : α → Nat → Value} {S n c : Nat} {l : List α} (h : Own w b e sz cell (.slice (some ⟨S, 0, none⟩) n c) l) : ∃ cs, w.heap[S]? = some (.cells cs e (0, 0)) := by
  rcases h.2 with ⟨h1, _⟩ | ⟨g, cap, cur, hv, _, hh, _⟩
  · cases h1
  · injection hv with hv _ _
    injection hv with hv
    injection hv with hv _ _
    subst hv
    exact ⟨cur, hh⟩
theorem blk_ne {w : World} {g g' : Nat} {cs cs' : Array Value} {t t' : TypeId} {f f' : Nat × Nat} (h : w.heap[g]? = some (.cells cs t f)) (h' : w.heap[g']? = some (.cells cs' t' f')) (hne : t ≠ t') : g ≠ g' := fun e => by
  subst e
  rw [h] at h'
  injection h' with h'
  injection h' with _ ht _
  exact hne ht
/-- who was looked from -/
def dnl (ord : List Int) (n : Nat) : List Bool := (List.range n).map fun (v : Nat) => decide ((v : Int) ∈ ord)
theorem dnl_len (ord : List Int) (n : Nat) : (dnl ord n).length = n := by simp [dnl]
theorem dnl_get {ord : List Int} {n k : Nat} (h : k < n) : (dnl ord n).getD k false = decide ((k : Int) ∈ ord) := by
  rw [List.getD_eq_getElem?_getD, dnl, List.getElem?_map, List.getElem?_range h]
  rfl
theorem dnl_nil (n : Nat) : dnl [] n = List.replicate n false := by
  apply List.ext_getElem
  · simp [dnl]
  · intro i h1 h2
    simp [dnl]
theorem dnl_set {ord : List Int} {n v : Nat} : (dnl ord n).set v true = dnl (ord ++ [(v : Int)]) n := by
  apply List.ext_getElem
  · simp [dnl]
  · intro i h1 h2
    rw [List.getElem_set]
    simp only [dnl, List.getElem_map, List.getElem_range, List.mem_append, List.mem_singleton]
    by_cases e : v = i
    · subst e; simp
    · have : ¬ (i : Int) = (v : Int) := by omega
      rw [if_neg e]
      simp [this]
/-- the search's blocks -/
structure SM (w0 w : World) (n : Nat) (A : Option Addr) (m c : Nat) (l : List E) (Ah : Option Addr) (ch Z SC SP SD T H : Nat) (F : Nat → Option Addr × Nat) (fn : Value) (Aw : Option Addr) (mw cw : Nat) (L : List Pl) (D P ord : List Int) (top : Nat) : Prop where
  box : w.heap[w0.heap.size]? = some (.cells #[.int .i64 n, .slice A m c] 32 (0, 0))
  res : w.heap[w0.heap.size + 1]? = some (.cells #[.slice none 0 0, .int .i64 0, .slice none 0 0] 45 (0, 0))
  z : w.heap[Z]? = some (.cells #[.int .i64 n, .slice A m c, .slice (some ⟨T, 0, none⟩) n n, .slice Ah n ch, .slice (some ⟨SC, 0, none⟩) n n, .slice (some ⟨SP, 0, none⟩) n n, .slice (some ⟨SD, 0, none⟩) n n, .pointer (some ⟨H, 0, none⟩), fn] 130 (0, 0))
  cost : Own w w0.heap.size 3 1 ci (.slice (some ⟨SC, 0, none⟩) n n) D
  pred : Own w w0.heap.size 3 1 ci (.slice (some ⟨SP, 0, none⟩) n n) P
  done : Own w w0.heap.size 4 1 cb (.slice (some ⟨SD, 0, none⟩) n n) (dnl ord n)
  tab : Tab w w0.heap.size T n F (ol l l.length)
  heap : HeapAt w w0.heap.size H (fnOf 76) Aw mw cw L
  ne : SC ≠ SP
  sep : ∀ v, v < n → (Value.slice (F v).1 0 0).ownBlock ≠ some SC ∧ (Value.slice (F v).1 0 0).ownBlock ≠ some SP
  lo : Below w0.heap.size w0 w
  dl : D.length = n
  pl : P.length = n
  tops : SC < top ∧ SP < top ∧ ∀ v, v < n → ∀ g, (Value.slice (F v).1 0 0).ownBlock = some g → g < top
  tw : top ≤ w.heap.size
  zt : w0.heap.size + 2 ≤ top
section
variable {w0 w w' : World} {n m c ch Z SC SP SD T H mw cw top : Nat} {A Ah Aw : Option Addr} {l : List E} {F : Nat → Option Addr × Nat} {fn : Value} {L : List Pl} {D P ord : List Int}
theorem SM.keep (h : SM w0 w n A m c l Ah ch Z SC SP SD T H F fn Aw mw cw L D P ord top) (hb : Below w.heap.size w w') : SM w0 w' n A m c l Ah ch Z SC SP SD T H F fn Aw mw cw L D P ord top :=
  ⟨blk_below h.box hb (lt_of_block h.box), blk_below h.res hb (lt_of_block h.res), blk_below h.z hb (lt_of_block h.z), h.cost.keep hb, h.pred.keep hb, h.done.keep hb, h.tab.keep hb, h.heap.keep hb, h.ne, h.sep, h.lo.trans (hb.mono h.lo.size), h.dl, h.pl, h.tops, Nat.le_trans h.tw hb.size, h.zt⟩
theorem SM.alloc (h : SM w0 w n A m c l Ah ch Z SC SP SD T H F fn Aw mw cw L D P ord top) (o : Obj) : SM w0 (w.alloc o) n A m c l Ah ch Z SC SP SD T H F fn Aw mw cw L D P ord top := h.keep ((Below.refl _ _).alloc (Nat.le_refl _) _)
theorem SM.drewN (h : SM w0 w n A m c l Ah ch Z SC SP SD T H F fn Aw mw cw L D P ord top) (k : Nat) : SM w0 (w.drewN k) n A m c l Ah ch Z SC SP SD T H F fn Aw mw cw L D P ord top := h.keep (below_drewN (Below.refl _ _) k)
theorem SM.drew (h : SM w0 w n A m c l Ah ch Z SC SP SD T H F fn Aw mw cw L D P ord top) : SM w0 w.drew n A m c l Ah ch Z SC SP SD T H F fn Aw mw cw L D P ord top := h.keep (Below.refl _ _).drew
theorem SM.kp {Aw' : Option Addr} {mw' cw' : Nat} {L' : List Pl} (h : SM w0 w n A m c l Ah ch Z SC SP SD T H F fn Aw mw cw L D P ord top) (hk : Kp w w' H (Value.slice Aw mw cw).ownBlock) (hh : HeapAt w' w0.heap.size H (fnOf 76) Aw' mw' cw' L') : SM w0 w' n A m c l Ah ch Z SC SP SD T H F fn Aw' mw' cw' L' D P ord top :=
  ⟨blk_kp h.heap hk h.box (by decide) (by decide), blk_kp h.heap hk h.res (by decide) (by decide), blk_kp h.heap hk h.z (by decide) (by decide), own_kp h.heap hk h.cost (by decide) (by decide), own_kp h.heap hk h.pred (by decide) (by decide), own_kp h.heap hk h.done (by decide) (by decide), tab_kp h.heap hk h.tab, hh, h.ne, h.sep, h.lo.trans (hk.to h.lo.size h.heap.hb h.heap.own.lo), h.dl, h.pl, h.tops, Nat.le_trans h.tw hk.size, h.zt⟩
theorem SM.setC (h : SM w0 w n A m c l Ah ch Z SC SP SD T H F fn Aw mw cw L D P ord top) (k : Nat) (x : Int) : SM w0 (w.setCell ⟨SC, k, none⟩ (.int .i64 x)) n A m c l Ah ch Z SC SP SD T H F fn Aw mw cw L (D.set k x) P ord top := by
  obtain ⟨cur, hb⟩ := own_blk h.cost
  obtain ⟨cs, htb, _⟩ := h.tab.blk
  have hlo := (h.cost.base_ SC rfl).1
  have hne := h.ne
  exact ⟨blk_far h.box (blk_ne h.box hb (by decide)) _, blk_far h.res (blk_ne h.res hb (by decide)) _, blk_far h.z (blk_ne h.z hb (by decide)) _, own_set1 h.dl h.cost k x, h.pred.setCell (fun e => hne (by injection e with e; exact e.symm)) _, h.done.setCell (h.done.ne_ hb (by decide)) _, tab_far h.tab (blk_ne hb htb (by decide)) (fun v hv => (h.sep v hv).1) _, heap_far h.heap hb (by decide) (by decide) _, h.ne, h.sep, h.lo.setCell hlo _, by rw [List.length_set]; exact h.dl, h.pl, h.tops, by simpa [World.setCell] using h.tw, h.zt⟩
theorem SM.setP (h : SM w0 w n A m c l Ah ch Z SC SP SD T H F fn Aw mw cw L D P ord top) (k : Nat) (x : Int) : SM w0 (w.setCell ⟨SP, k, none⟩ (.int .i64 x)) n A m c l Ah ch Z SC SP SD T H F fn Aw mw cw L D (P.set k x) ord top := by
  obtain ⟨cur, hb⟩ := own_blk h.pred
  obtain ⟨cs, htb, _⟩ := h.tab.blk
  have hlo := (h.pred.base_ SP rfl).1
  have hne := h.ne
  exact ⟨blk_far h.box (blk_ne h.box hb (by decide)) _, blk_far h.res (blk_ne h.res hb (by decide)) _, blk_far h.z (blk_ne h.z hb (by decide)) _, h.cost.setCell (fun e => hne (by injection e with e)) _, own_set1 h.pl h.pred k x, h.done.setCell (h.done.ne_ hb (by decide)) _, tab_far h.tab (blk_ne hb htb (by decide)) (fun v hv => (h.sep v hv).2) _, heap_far h.heap hb (by decide) (by decide) _, h.ne, h.sep, h.lo.setCell hlo _, h.dl, by rw [List.length_set]; exact h.pl, h.tops, by simpa [World.setCell] using h.tw, h.zt⟩
theorem SM.setD (h : SM w0 w n A m c l Ah ch Z SC SP SD T H F fn Aw mw cw L D P ord top) (k : Nat) (hk : k < n) : SM w0 (w.setCell ⟨SD, k, none⟩ (.bool true)) n A m c l Ah ch Z SC SP SD T H F fn Aw mw cw L D P (ord ++ [(k : Int)]) top := by
  obtain ⟨cur, hb⟩ := own_blk h.done
  obtain ⟨cs, htb, _⟩ := h.tab.blk
  have hlo := (h.done.base_ SD rfl).1
  have hset := own_setG (cell := cb) (dnl_len ord n) h.done k hk true
  rw [dnl_set] at hset
  exact ⟨blk_far h.box (blk_ne h.box hb (by decide)) _, blk_far h.res (blk_ne h.res hb (by decide)) _, blk_far h.z (blk_ne h.z hb (by decide)) _, h.cost.setCell (h.cost.ne_ hb (by decide)) _, h.pred.setCell (h.pred.ne_ hb (by decide)) _, hset, tab_far h.tab (blk_ne hb htb (by decide)) (fun v hv e => (h.tab.own v hv).ne_ hb (by decide) ((obs ..).trans e)) _, heap_far h.heap hb (by decide) (by decide) _, h.ne, h.sep, h.lo.setCell hlo _, h.dl, h.pl, h.tops, by simpa [World.setCell] using h.tw, h.zt⟩
/-- an int row behind all that the search has grows -/
theorem SM.grown {row : Option Nat} {bo : Nat} {v : Value} {O : List Int} (h : SM w0 w n A m c l Ah ch Z SC SP SD T H F fn Aw mw cw L D P ord top) (ho : Own w bo 3 1 ci v O) (hbo : top ≤ bo) (hg : w.grownBy w' v.ownBlock) : SM w0 w' n A m c l Ah ch Z SC SP SD T H F fn Aw mw cw L D P ord top := by
  have hfar : ∀ (v1 : Value) (g1 : Nat), v1.ownBlock = some g1 → g1 < top → v1.ownBlock = none ∨ v1.ownBlock ≠ v.ownBlock := fun v1 g1 h1 h2 => .inr (fun e => by
    have := (ho.base_ g1 (e.symm.trans h1)).1
    omega)
  obtain ⟨t1, t2, t3⟩ := h.tops
  obtain ⟨cs, htb, hs, hc⟩ := h.tab.blk
  have hty : ∀ {g : Nat} {cs : Array Value} {t : TypeId}, w.heap[g]? = some (.cells cs t (0, 0)) → 3 ≠ t → w'.heap[g]? = some (.cells cs t (0, 0)) := fun hg1 ht => blk_grown hg1 hg (ho.ne_ hg1 ht)
  refine ⟨hty h.box (by decide), hty h.res (by decide), hty h.z (by decide), h.cost.kept hg (hfar _ SC rfl t1), h.pred.kept hg (hfar _ SP rfl t2), h.done.kept hg (.inr fun e => ?_), ⟨h.tab.lo, ⟨cs, hty htb (by decide), hs, hc⟩, fun u hu => ?_, h.tab.sep⟩, ⟨h.heap.hb, hty h.heap.blk (by decide), h.heap.own.kept hg ?_, h.heap.len⟩, h.ne, h.sep, h.lo.grown hg h.lo.size (fun g hg1 => by have := (ho.base_ g hg1).1; have := h.zt; omega), h.dl, h.pl, h.tops, Nat.le_trans h.tw hg.size, h.zt⟩
  · obtain ⟨cur, hb⟩ := own_blk h.done
    exact ho.ne_ hb (by decide) e.symm
  · refine (h.tab.own u hu).kept hg ?_
    cases hx : (Value.slice (F u).1 (ol l l.length u).length (F u).2).ownBlock with
    | none => exact .inl rfl
    | some g => rw [← hx]; exact hfar _ g hx (t3 u hu g ((obs ..).trans hx))
  · cases hx : (Value.slice Aw mw cw).ownBlock with
    | none => exact .inl rfl
    | some g =>
      refine .inr fun e => ?_
      obtain ⟨A', c', hv, _, hnil⟩ := h.heap.own.form
      rcases h.heap.own.2 with ⟨h1, _⟩ | ⟨g', cap, cur, h1, _, hh, _⟩
      · rw [h1] at hx; cases hx
      · rw [h1] at hx
        injection hx with hx
        simp at hx
        subst hx
        exact ho.ne_ hh (by decide) e.symm
end
end Go.Proofs.Ytbgkkmcobijkgaa.Star
