/- What a push or a pop of the heap, and a write into one of the rows, leaves of a search. -/
/- Writes into a search's rows. -/
/- How a search's heap and its list of late places stand to its state. No walk. -/
/- What an append to the late ones, or to the rounds, leaves of a search. -/
import Derived.Test.YtpoolpaagbeokaaVAraKey
import Derived.StillTailTactics
import Derived.BigRegion
import Derived.BigQuiet
import Derived.Deep.RegionHeld3
namespace Go.Proofs.Ytpoolpaagbeokaa.Ara
open Go.RowKit Go.Proofs.Ytpoolpaagbeokaa NetLaw BellLaw StarLaw AraLaw Go.Proofs.Ytpoolpaagbeokaa.Net Go.Proofs.Ytpoolpaagbeokaa.Std Go.Proofs.Ytpoolpaagbeokaa.Flow
open Go.Proofs.Ytpoolpaagbeokaa.Heap (Kp Kp.refl Kp.below Kp.alloc Kp.drew Kp.setCell Kp.grown Kp.to fnOf)
open Go.Proofs.Ytpoolpaagbeokaa.HeapP (HeapAt d0 ltP ltP_ord)
set_option linter.unusedSimpArgs false
set_option linter.unusedVariables false
section
variable {w w' : World} {base base' H n c : Nat} {fn : Value} {A : Option Addr} {L : List HeapP.Pop}
theorem blk_kp {g : Nat} {cs : Array Value} {t : TypeId} {fr : Nat × Nat} (h : HeapAt w base H fn A n c L) (hk : Kp w w' H (Value.slice A n c).ownBlock) (hg : w.heap[g]? = some (.cells cs t fr)) (h1 : 128 ≠ t) (h2 : 101 ≠ t) : w'.heap[g]? = some (.cells cs t fr) := by
  refine (hk.block g (lt_of_block hg) (fun e => ?_) (fun e => h.own.ne_ hg h2 e.symm)).trans hg
  subst e
  have := h.blk
  rw [hg] at this
  injection this with this
  injection this with _ ht _
  exact h1 ht.symm
theorem own_kp {α : Type} {sz : Nat} {cell : α → Nat → Value} {e : TypeId} {v : Value} {r : List α} (h : HeapAt w base H fn A n c L) (hk : Kp w w' H (Value.slice A n c).ownBlock) (ho : Own w base' e sz cell v r) (h1 : 128 ≠ e) (h2 : 101 ≠ e) : Own w' base' e sz cell v r := by
  refine ⟨ho.1, ?_⟩
  rcases ho.2 with h3 | ⟨g, cap, cur, rfl, hg, hh, rest⟩
  · exact .inl h3
  · exact .inr ⟨g, cap, cur, rfl, hg, blk_kp h hk hh h1 h2, rest⟩
theorem tab_kp {S m : Nat} {F : Nat → Option Addr × Nat} {Ls : Nat → List Int} (h : HeapAt w base H fn A n c L) (hk : Kp w w' H (Value.slice A n c).ownBlock) (ht : Tab w base' S m F Ls) : Tab w' base' S m F Ls := by
  obtain ⟨cs, hb, hs, hc⟩ := ht.blk
  exact ⟨ht.lo, ⟨cs, blk_kp h hk hb (by decide) (by decide), hs, hc⟩, fun v hv => own_kp h hk (ht.own v hv) (by decide) (by decide), ht.sep⟩
theorem tab_far {S m : Nat} {F : Nat → Option Addr × Nat} {Ls : Nat → List Int} {p : Addr} (ht : Tab w base' S m F Ls) (h1 : p.block ≠ S) (h2 : ∀ v, v < m → (Value.slice (F v).1 0 0).ownBlock ≠ some p.block) (u : Value) : Tab (w.setCell p u) base' S m F Ls := by
  obtain ⟨cs, hb, hs, hc⟩ := ht.blk
  exact ⟨ht.lo, ⟨cs, blk_far hb (fun e => h1 e.symm) u, hs, hc⟩, fun v hv => (ht.own v hv).setCell (fun e => h2 v hv ((obs ..).trans e)) u, ht.sep⟩
theorem heap_far {p : Addr} {t : TypeId} {cs : Array Value} (h : HeapAt w base H fn A n c L) (hp : w.heap[p.block]? = some (.cells cs t (0, 0))) (h1 : 128 ≠ t) (h2 : 101 ≠ t) (u : Value) : HeapAt (w.setCell p u) base H fn A n c L := by
  have hne : H ≠ p.block := fun e => by
    have hb := h.blk
    rw [e, hp] at hb
    injection hb with hb
    injection hb with _ ht _
    exact h1 ht.symm
  exact ⟨h.hb, blk_far h.blk hne u, h.own.setCell (h.own.ne_ hp h2) u, h.len⟩
end
/-- the block of an own row that is there -/
theorem own_blk {α : Type} {w : World} {b : Nat} {e : TypeId} {sz : Nat} {cell : α → Nat → Value} {S n c : Nat} {l : List α} (h : Own w b e sz cell (.slice (some ⟨S, 0, none⟩) n c) l) : ∃ cs, w.heap[S]? = some (.cells cs e (0, 0)) := by
  rcases h.2 with ⟨h1, _⟩ | ⟨g, cap, cur, hv, _, hh, _⟩
  · cases h1
  · injection hv with hv _ _
    injection hv with hv
    injection hv with hv _ _
    subst hv
    exact ⟨cur, hh⟩
theorem blk_ne {w : World} {g g' : Nat} {cs cs' : Array Value} {t t' : TypeId} {f f' : Nat × Nat} (h : w.heap[g]? = some (.cells cs t f)) (h' : w.heap[g']? = some (.cells cs' t' f')) (hne : t ≠ t') : g ≠ g' := fun e => by
  subst e
  rw [h] at h'
  injection h' with h'
  injection h' with _ ht _
  exact hne ht
section
variable {b : Nat} {w w' : World} {P : Nat} {F : Fix} {Y : Var} {s : AS}
/-- the heap lies elsewhere -/
def Var.heap' (Y : Var) (A : Option Addr) (m c : Nat) (L : List HeapP.Pop) : Var := { Y with Ah := A, m := m, ch := c, L := L }
theorem AM.kp {A' : Option Addr} {m' c' : Nat} {L' : List HeapP.Pop} (h : AM b w P F Y s) (hk : Kp w w' F.H (Value.slice Y.Ah Y.m Y.ch).ownBlock) (hh : HeapAt w' b F.H (fnOf 40) A' m' c' L') (hp : HeapLaw.Hp d0 ltP L') : AM b w' P F (Y.heap' A' m' c' L') s :=
  ⟨blk_kp h.heap hk h.z (by decide) (by decide), h.zl, own_kp h.heap hk h.net (by decide) (by decide), tab_kp h.heap hk h.tab, own_kp h.heap hk h.hh (by decide) (by decide), own_kp h.heap hk h.wt (by decide) (by decide), own_kp h.heap hk h.cost (by decide) (by decide), own_kp h.heap hk h.pred (by decide) (by decide), own_kp h.heap hk h.done (by decide) (by decide), own_kp h.heap hk h.late (by decide) (by decide), hh, hp, own_kp h.heap hk h.rows (by decide) (by decide), fun x hx => own_kp h.heap hk (h.ways x hx) (by decide) (by decide), h.rds, h.lenC, h.lenP, h.lenD, h.lenH, h.lenL, h.lenR, h.neCP, h.neH, h.neO, h.neL, h.neW⟩
theorem Fr.kp {A' : Option Addr} {m' c' : Nat} {L' : List HeapP.Pop} (hk : Kp w w' F.H (Value.slice Y.Ah Y.m Y.ch).ownBlock) (hn : ∀ S, ob A' = some S → ob Y.Ah = some S ∨ w.heap.size ≤ S) : Fr P F Y (Y.heap' A' m' c' L') w w' :=
  ⟨hk.os, hk.tape, hk.output, hk.size, fun g hg hm => hk.block g hg (fun e => hm (.inr (.inr (.inr (.inr (.inl e)))))) (fun e => hm (.inr (.inr (.inr (.inr (.inr (.inl ((ob_ ..).symm.trans e.symm)))))))), fun g hm => by
    rcases hm with hm | hm | hm | hm | hm | hm | hm | hm
    · exact .inl (.inl hm)
    · exact .inl (.inr (.inl hm))
    · exact .inl (.inr (.inr (.inl hm)))
    · exact .inl (.inr (.inr (.inr (.inl hm))))
    · exact .inl (.inr (.inr (.inr (.inr (.inl hm)))))
    · rcases hn g hm with h | h
      · exact .inl (.inr (.inr (.inr (.inr (.inr (.inl h))))))
      · exact .inr h
    · exact .inl (.inr (.inr (.inr (.inr (.inr (.inr (.inl hm)))))))
    · exact .inl (.inr (.inr (.inr (.inr (.inr (.inr (.inr hm))))))), fun x hx => .inl hx⟩
/-- what put does -/
def PutSays (b : Nat) (w : World) (P : Nat) (F : Fix) (Y : Var) (s : AS) (v : Nat) (k : Int) (e : Ending) (w' : World) : Prop :=
  (∃ r, e = .returned r) ∧ ∃ A c L', AM b w' P F (Y.heap' A (Y.m + 1) c L') s ∧ L'.Perm ((k, dg F.h v, (v : Int)) :: Y.L) ∧ Fr P F Y (Y.heap' A (Y.m + 1) c L') w w'
set_option maxRecDepth 100000 in
set_option maxHeartbeats 4000000 in
theorem put_any (h : AM b w P F Y s) (hr : s.rds.length < F.ws.length) (hw : WOk (cwt F.ws s)) {v : Nat} (hv : v < F.n) (hc : 0 ≤ dg s.C v ∧ dg s.C v ≤ far) (hg : 0 ≤ dg F.h v ∧ dg F.h v ≤ far) (hm : Y.m ≤ 4000000000000) :
    Calls Try.prog 56 #[.pointer (some ⟨P, 0, none⟩), .int .i64 v] w fun e w' => PutSays b w P F Y s v ((cwt F.ws s).2 * dg s.C v + (cwt F.ws s).1 * dg F.h v) e w' := by
  obtain ⟨⟨_, _, _, _, z4, _⟩, ⟨_, _, _, _, z10, _, _⟩, zp⟩ := h.zs
  obtain ⟨bh, oh, e4, b4, _, _, y1⟩ := h.cells hv
  rw [e4] at z4
  have hk := fun (W : World) (hW : Below w.heap.size w W) => key_any (h.keep hW) hr hw hv hc hg
  generalize (cwt F.ws s).2 * dg s.C v + (cwt F.ws s).1 * dg F.h v = ky at *
  have hpu := fun (W : World) (hW : Below w.heap.size w W) => HeapP.push_any ltP ltP_ord HeapP.less_any b F.H Y.Ah Y.m Y.ch Y.L ky (dg F.h v) v W (h.keep hW).heap h.hp (by omega) ((h.keep hW).size)
  have hfin : ∀ (W w' : World) (A8 : Option Addr) (c8 : Nat) (L8 : List HeapP.Pop) (r : Value), Below w.heap.size w W → HeapAt w' b F.H (fnOf 40) A8 (Y.m + 1) c8 L8 → L8.Perm ((ky, dg F.h v, (v : Int)) :: Y.L) → HeapLaw.Hp d0 ltP L8 → Kp W w' F.H (Value.slice Y.Ah Y.m Y.ch).ownBlock → (∀ S, (Value.slice A8 (Y.m + 1) c8).ownBlock = some S → (Value.slice Y.Ah Y.m Y.ch).ownBlock = some S ∨ W.heap.size ≤ S) → PutSays b w P F Y s v ky (.returned r) w' := fun W w' A8 c8 L8 r hW hh hpm hhp hkp hat =>
    ⟨⟨r, rfl⟩, A8, c8, L8, (h.keep hW).kp hkp hh hhp, hpm, (Fr.of hW).trans (Fr.kp hkp (fun S hS => (hat S ((ob_ ..).trans hS)).imp (fun e => (ob_ ..).symm.trans e) id))⟩
  have hs : ∀ (W : World) (r : Value), PutSays b w P F Y s v ky (.returned r) W → W.cell? ⟨P, 4, none⟩ = some (.slice (some ⟨bh, oh, none⟩) F.n F.cH) ∧ W.cell? ⟨P, 10, none⟩ = some (.pointer (some ⟨F.H, 0, none⟩)) ∧ W.cell? ⟨bh, oh + v, none⟩ = some (.int .i64 (dg F.h v)) := fun W r hP => by
    obtain ⟨_, _, _, _, hW, _⟩ := hP
    obtain ⟨⟨_, _, _, _, q4, _⟩, ⟨_, _, _, _, q10, _, _⟩, _⟩ := hW.zs
    obtain ⟨bh', oh', e4', _, _, _, y1'⟩ := hW.cells hv
    rw [e4] at e4' q4
    injection e4' with e4'
    injection e4' with ea eb _
    subst ea eb
    exact ⟨q4, q10, y1'⟩
  have HSS := Lib.hid hs
  have HK := Lib.hid hk
  have HPU := Lib.hid hpu
  have HFIN := Lib.hid hfin
  have HB0 : Below w.heap.size w w := Below.refl _ _
  clear hk hpu hfin hs h hw hr hc hg hm e4
  generalize dg F.h v = g at *
  go_enter Try.func56, Try.ntmps56
  go_upto_region 0 with fail
  go_region_held3 (fun w' => w'.cell? ⟨P, 4, none⟩ = some (.slice (some ⟨bh, oh, none⟩) F.n F.cH) ∧ w'.cell? ⟨P, 10, none⟩ = some (.pointer (some ⟨F.H, 0, none⟩)) ∧ w'.cell? ⟨bh, oh + v, none⟩ = some (.int .i64 g))
    (first
      | go_keep
      | exact p8
      | exact q8)
    (first
      | (go_at_call 59; refine (HK.out _ HB0.drew).mono ?_; rintro e wd ⟨rfl, hbd⟩; have p9 : Below w.heap.size w wd := HB0.drew.trans (hbd.mono (by simp)); have p8 : wd.cell? ⟨P, 4, none⟩ = some (.slice (some ⟨bh, oh, none⟩) F.n F.cH) ∧ wd.cell? ⟨P, 10, none⟩ = some (.pointer (some ⟨F.H, 0, none⟩)) ∧ wd.cell? ⟨bh, oh + v, none⟩ = some (.int .i64 g) := ⟨below_cells p9 zp z4, below_cells p9 zp z10, below_cells p9 b4 y1⟩)
      | (go_at_call 67; refine (HPU.out _ p9).mono ?_; rintro e we ⟨⟨r8, rfl⟩, A8, c8, L8, hh8, hpm8, hhp8, hkp8, hat8⟩; have q9 := HFIN.out _ _ A8 c8 L8 (.tuple #[]) p9 hh8 hpm8 hhp8 hkp8 hat8; have q8 := HSS.out _ _ q9))
  all_goals
    go_wp2
    exact bodyPost_end (v := .tuple #[]) (by simp [results, Try.results56, go_sem]) rfl q9
end
end Go.Proofs.Ytpoolpaagbeokaa.Ara

namespace Go.Proofs.Ytpoolpaagbeokaa.Ara
open Go.RowKit Go.Proofs.Ytpoolpaagbeokaa NetLaw BellLaw StarLaw AraLaw Go.Proofs.Ytpoolpaagbeokaa.Net Go.Proofs.Ytpoolpaagbeokaa.Std Go.Proofs.Ytpoolpaagbeokaa.Flow
open Go.Proofs.Ytpoolpaagbeokaa.Heap (Kp Kp.refl Kp.below Kp.alloc Kp.drew Kp.setCell Kp.grown Kp.to fnOf)
open Go.Proofs.Ytpoolpaagbeokaa.HeapP (HeapAt d0 ltP ltP_ord)
section
variable {b : Nat} {w w' : World} {P : Nat} {F : Fix} {Y : Var} {s : AS}
theorem AM.setC (h : AM b w P F Y s) (k : Nat) (x : Int) : AM b (w.setCell ⟨F.SC, k, none⟩ (.int .i64 x)) P F Y { s with C := s.C.set k x } := by
  obtain ⟨cur, hb⟩ := own_blk h.cost
  obtain ⟨cs, hti, _⟩ := h.tab.blk
  exact ⟨blk_far h.z (blk_ne h.z hb (by decide)) _, h.zl, h.net.setCell (h.net.ne_ hb (by decide)) _, tab_far (p := ⟨F.SC, k, none⟩) h.tab (blk_ne hb hti (by decide)) (fun v hv => (h.neO v hv).1) _, h.hh.setCell (fun e => h.neH.1 ((ob_ ..).symm.trans e)) _, h.wt.setCell (h.wt.ne_ hb (by decide)) _, own_set1 h.lenC h.cost k x, h.pred.setCell (fun e => h.neCP (by injection e with e; exact e.symm)) _, h.done.setCell (h.done.ne_ hb (by decide)) _, h.late.setCell (fun e => (h.neL _ ((ob_ ..).symm.trans e)).1 rfl) _, heap_far h.heap hb (by decide) (by decide) _, h.hp, h.rows.setCell (h.rows.ne_ hb (by decide)) _, fun x hx => (h.ways x hx).setCell (fun e => (h.neW x hx).1 ((ob_ ..).symm.trans e)) _, h.rds, by show (s.C.set k x).length = F.n; rw [List.length_set]; exact h.lenC, h.lenP, h.lenD, h.lenH, h.lenL, h.lenR, h.neCP, h.neH, h.neO, h.neL, h.neW⟩
theorem AM.setP (h : AM b w P F Y s) (k : Nat) (x : Int) : AM b (w.setCell ⟨F.SP, k, none⟩ (.int .i64 x)) P F Y { s with P := s.P.set k x } := by
  obtain ⟨cur, hb⟩ := own_blk h.pred
  obtain ⟨cs, hti, _⟩ := h.tab.blk
  exact ⟨blk_far h.z (blk_ne h.z hb (by decide)) _, h.zl, h.net.setCell (h.net.ne_ hb (by decide)) _, tab_far (p := ⟨F.SP, k, none⟩) h.tab (blk_ne hb hti (by decide)) (fun v hv => (h.neO v hv).2) _, h.hh.setCell (fun e => h.neH.2 ((ob_ ..).symm.trans e)) _, h.wt.setCell (h.wt.ne_ hb (by decide)) _, h.cost.setCell (fun e => h.neCP (by injection e with e)) _, own_set1 h.lenP h.pred k x, h.done.setCell (h.done.ne_ hb (by decide)) _, h.late.setCell (fun e => (h.neL _ ((ob_ ..).symm.trans e)).2.1 rfl) _, heap_far h.heap hb (by decide) (by decide) _, h.hp, h.rows.setCell (h.rows.ne_ hb (by decide)) _, fun x hx => (h.ways x hx).setCell (fun e => (h.neW x hx).2 ((ob_ ..).symm.trans e)) _, h.rds, h.lenC, by show (s.P.set k x).length = F.n; rw [List.length_set]; exact h.lenP, h.lenD, h.lenH, h.lenL, h.lenR, h.neCP, h.neH, h.neO, h.neL, h.neW⟩
theorem AM.setS (h : AM b w P F Y s) (x : Int) : AM b (w.setCell ⟨P, 11, none⟩ (.int .i64 x)) P F Y { s with sp := x } := by
  obtain ⟨cs, hti, _⟩ := h.tab.blk
  exact ⟨blk_set h.z 11 _, h.zl, h.net.setCell (h.net.ne_ h.z (by decide)) _, tab_far (p := ⟨P, 11, none⟩) h.tab (blk_ne h.z hti (by decide)) (fun v hv e => (h.tab.own v hv).ne_ h.z (by decide) ((ob_ ..).trans e)) _, h.hh.setCell (h.hh.ne_ h.z (by decide)) _, h.wt.setCell (h.wt.ne_ h.z (by decide)) _, h.cost.setCell (h.cost.ne_ h.z (by decide)) _, h.pred.setCell (h.pred.ne_ h.z (by decide)) _, h.done.setCell (h.done.ne_ h.z (by decide)) _, h.late.setCell (h.late.ne_ h.z (by decide)) _, heap_far h.heap h.z (by decide) (by decide) _, h.hp, h.rows.setCell (h.rows.ne_ h.z (by decide)) _, fun x hx => (h.ways x hx).setCell ((h.ways x hx).ne_ h.z (by decide)) _, h.rds, h.lenC, h.lenP, h.lenD, h.lenH, h.lenL, h.lenR, h.neCP, h.neH, h.neO, h.neL, h.neW⟩
theorem AM.setD (h : AM b w P F Y s) {k : Nat} (hk : k < F.n) (x : Bool) : AM b (w.setCell ⟨F.SD, k, none⟩ (.bool x)) P F Y { s with dn := s.dn.set k x } := by
  obtain ⟨cur, hb⟩ := own_blk h.done
  obtain ⟨cs, hti, _⟩ := h.tab.blk
  have hd := own_setG h.lenD h.done k hk x
  exact ⟨blk_far h.z (blk_ne h.z hb (by decide)) _, h.zl, h.net.setCell (h.net.ne_ hb (by decide)) _, tab_far (p := ⟨F.SD, k, none⟩) h.tab (blk_ne hb hti (by decide)) (fun v hv e => (h.tab.own v hv).ne_ hb (by decide) ((ob_ ..).trans e)) _, h.hh.setCell (h.hh.ne_ hb (by decide)) _, h.wt.setCell (h.wt.ne_ hb (by decide)) _, h.cost.setCell (h.cost.ne_ hb (by decide)) _, h.pred.setCell (h.pred.ne_ hb (by decide)) _, hd, h.late.setCell (h.late.ne_ hb (by decide)) _, heap_far h.heap hb (by decide) (by decide) _, h.hp, h.rows.setCell (h.rows.ne_ hb (by decide)) _, fun y hy => (h.ways y hy).setCell ((h.ways y hy).ne_ hb (by decide)) _, h.rds, h.lenC, h.lenP, by show (s.dn.set k x).length = F.n; rw [List.length_set]; exact h.lenD, h.lenH, h.lenL, h.lenR, h.neCP, h.neH, h.neO, h.neL, h.neW⟩
end
end Go.Proofs.Ytpoolpaagbeokaa.Ara

namespace Go.Proofs.Ytpoolpaagbeokaa.Ara
open Go.RowKit Go.Proofs.Ytpoolpaagbeokaa NetLaw BellLaw StarLaw AraLaw Go.Proofs.Ytpoolpaagbeokaa.Net Go.Proofs.Ytpoolpaagbeokaa.Std Go.Proofs.Ytpoolpaagbeokaa.Flow
open Go.Proofs.Ytpoolpaagbeokaa.HeapP (HeapAt d0 ltP ltP_ord)
set_option linter.unusedSimpArgs false
set_option linter.unusedVariables false
/-- the heap and the late ones against the state, by the weight of now -/
structure HR (F : Fix) (Y : Var) (s : AS) (w : Int × Int) (K : Nat) : Prop where
  mem : ∀ v, AraLaw.Op F.n s v → kyA w F.h s v ∈ Y.L
  ids : ∀ x ∈ Y.L, (0 ≤ x.2.2 ∧ x.2.2 < F.n) ∧ x.2.1 = dg F.h x.2.2 ∧ (db s.dn x.2.2 = false → s.op x.2.2 = true)
  od : ∀ v, AraLaw.Op F.n s v → db s.dn v = false
  late : ∀ v : Int, 0 ≤ v → v < F.n → (s.lt v = true ↔ v ∈ Y.LT)
  lr : ∀ v ∈ Y.LT, 0 ≤ v ∧ v < F.n
  bm : Y.m ≤ K
  bl : Y.kl ≤ K
/-- costs are costs -/
def CB (F : Fix) (s : AS) : Prop := ∀ v : Int, 0 ≤ v → v < F.n → 0 ≤ dg s.C v ∧ dg s.C v ≤ far
/-- the late ones lie elsewhere -/
def Var.late' (Y : Var) (A : Option Addr) (k c : Nat) (LT : List Int) : Var := { Y with AL := A, kl := k, cl := c, LT := LT }
section
variable {F : Fix} {Y : Var} {s : AS} {w : Int × Int} {K : Nat}
theorem HR.more {K' : Nat} (h : HR F Y s w K) (hK : K ≤ K') : HR F Y s w K' := ⟨h.mem, h.ids, h.od, h.late, h.lr, Nat.le_trans h.bm hK, Nat.le_trans h.bl hK⟩
theorem up_eq {f : Int → Bool} {v : Int} {x : Bool} : up f v x v = x := by simp [up]
theorem up_ne {f : Int → Bool} {u v : Int} {x : Bool} (h : u ≠ v) : up f v x u = f u := by simp [up, h]
theorem db_ofl {l : List Bool} {v : Nat} {x : Bool} (h : l.getD v false = x) : db l (v : Int) = x := by unfold db; rw [Int.toNat_natCast]; exact h
theorem CB.set (h : CB F s) (hl : s.C.length = F.n) {v : Nat} (hv : v < F.n) {c : Int} (hc : 0 ≤ c ∧ c ≤ far) {P : List Int} {op lt : Int → Bool} : CB F { s with C := s.C.set v c, P := P, op := op, lt := lt } := fun u u0 u1 => by
  show 0 ≤ dg (s.C.set v c) u ∧ dg (s.C.set v c) u ≤ far
  have e : v = (v : Int).toNat := by simp
  rw [e, dg_set (by omega) (by omega) u0]
  split
  · exact hc
  · exact h u u0 u1
/-- a place that was not done, reached for less, waits with its new key -/
theorem HR.put (h : HR F Y s w K) (hl : s.C.length = F.n) {v : Nat} (hv : v < F.n) {c : Int} (hd : db s.dn v = false) {A : Option Addr} {c' : Nat} {L' : List HeapP.Pop} (hp : L'.Perm ((w.2 * c + w.1 * dg F.h v, dg F.h v, (v : Int)) :: Y.L)) {P : List Int} :
    HR F (Y.heap' A (Y.m + 1) c' L') { s with C := s.C.set v c, P := P, op := up s.op v true } w (K + 1) := by
  have e : v = (v : Int).toNat := by simp
  have hdg : ∀ x : Int, 0 ≤ x → dg (s.C.set v c) x = if x = (v : Int) then c else dg s.C x := fun x x0 => by
    have := dg_set (D := s.C) (t := (v : Int)) (x := c) (by omega) (by omega) x0
    rw [Int.toNat_natCast] at this
    exact this
  refine ⟨fun x hx => ?_, fun x hx => ?_, fun x hx => ?_, h.late, h.lr, by show Y.m + 1 ≤ K + 1; have := h.bm; omega, by show Y.kl ≤ K + 1; have := h.bl; omega⟩
  · refine hp.mem_iff.2 ?_
    by_cases ex : x = (v : Int)
    · subst ex
      refine List.mem_cons.2 (.inl ?_)
      show (w.2 * dg (s.C.set v c) v + w.1 * dg F.h v, dg F.h v, (v : Int)) = _
      rw [hdg _ (by omega), if_pos rfl]
    · refine List.mem_cons.2 (.inr ?_)
      have h1 : s.op x = true := by have := hx.2; simp only [up_ne ex] at this; exact this
      have h2 := h.mem x ⟨hx.1, h1⟩
      have e2 : kyA w F.h { s with C := s.C.set v c, P := P, op := up s.op v true } x = kyA w F.h s x := by
        unfold kyA
        simp only
        rw [hdg x hx.1.1, if_neg ex]
      rw [e2]
      exact h2
  · rcases List.mem_cons.1 (hp.mem_iff.1 hx) with rfl | hx
    · exact ⟨⟨by simp, by simp only; omega⟩, rfl, fun _ => up_eq⟩
    · obtain ⟨h1, h2, h3⟩ := h.ids x hx
      refine ⟨h1, h2, fun hd' => ?_⟩
      by_cases ex : x.2.2 = (v : Int)
      · rw [ex]; exact up_eq
      · show up s.op v true x.2.2 = true
        rw [up_ne ex]
        exact h3 hd'
  · by_cases ex : x = (v : Int)
    · rw [ex]; exact hd
    · have h1 : s.op x = true := by have := hx.2; simp only [up_ne ex] at this; exact this
      exact h.od x ⟨hx.1, h1⟩
/-- a place that was done, reached for less, is late -/
theorem HR.lates (h : HR F Y s w K) (hl : s.C.length = F.n) {v : Nat} (hv : v < F.n) {c : Int} (hd : db s.dn v = true) {A : Option Addr} {c' : Nat} {P : List Int} :
    HR F (Y.late' A (Y.kl + 1) c' (Y.LT ++ [(v : Int)])) { s with C := s.C.set v c, P := P, lt := up s.lt v true } w (K + 1) := by
  have hdg : ∀ x : Int, 0 ≤ x → dg (s.C.set v c) x = if x = (v : Int) then c else dg s.C x := fun x x0 => by
    have := dg_set (D := s.C) (t := (v : Int)) (x := c) (by omega) (by omega) x0
    rw [Int.toNat_natCast] at this
    exact this
  refine ⟨fun x hx => ?_, h.ids, h.od, fun x x0 x1 => ?_, fun x hx => ?_, by show Y.m ≤ K + 1; have := h.bm; omega, by show Y.kl + 1 ≤ K + 1; have := h.bl; omega⟩
  · have hne : x ≠ (v : Int) := fun e => by
      have := h.od x hx
      rw [e, hd] at this
      cases this
    have h2 := h.mem x hx
    have e2 : kyA w F.h { s with C := s.C.set v c, P := P, lt := up s.lt v true } x = kyA w F.h s x := by
      unfold kyA
      simp only
      rw [hdg x hx.1.1, if_neg hne]
    rw [e2]
    exact h2
  · show up s.lt v true x = true ↔ x ∈ Y.LT ++ [(v : Int)]
    by_cases ex : x = (v : Int)
    · rw [ex, up_eq]; simp
    · rw [up_ne ex, List.mem_append, h.late x x0 x1]
      simp [ex]
  · rcases List.mem_append.1 hx with hx | hx
    · exact h.lr x hx
    · rw [List.mem_singleton] at hx
      omega
/-- what waits on top, and is as it was put -/
def Fresh (F : Fix) (s : AS) (w : Int × Int) (x : HeapP.Pop) : Prop := db s.dn x.2.2 = false ∧ x.1 = (kyA w F.h s x.2.2).1
theorem HR.next (h : HR F Y s w K) (hp : HeapLaw.Hp d0 ltP Y.L) (hlen : Y.L.length = Y.m) (hm : 0 < Y.m) (hf : Fresh F s w (Y.L.getD 0 d0)) : NxA F.n w F.h s (Y.L.getD 0 d0).2.2 ∧ Y.L.getD 0 d0 = kyA w F.h s (Y.L.getD 0 d0).2.2 := by
  have hmem : Y.L.getD 0 d0 ∈ Y.L := by
    rw [List.getD_eq_getElem?_getD, List.getElem?_eq_getElem (by omega)]
    exact List.getElem_mem _
  obtain ⟨h1, h2, h3⟩ := h.ids _ hmem
  have he : Y.L.getD 0 d0 = kyA w F.h s (Y.L.getD 0 d0).2.2 := by
    refine Prod.ext hf.2 (Prod.ext h2 rfl)
  refine ⟨⟨⟨h1, h3 hf.1⟩, fun u hu => ?_⟩, he⟩
  rw [← he]
  exact hp.top_mem ltP_ord _ (h.mem u hu)
theorem HR.none (h : HR F Y s w K) (hlen : Y.L.length = Y.m) (hm : Y.m = 0) : ∀ v, ¬ AraLaw.Op F.n s v := fun v hv => by
  have h1 := h.mem v hv
  have : Y.L = [] := List.length_eq_zero_iff.1 (by omega)
  rw [this] at h1
  cases h1
/-- one that is not as it was put is dropped -/
theorem HR.drop {m : Nat} (h : HR F Y s w K) (hm : Y.m = m + 1) {x : HeapP.Pop} {L' : List HeapP.Pop} (hp : (x :: L').Perm Y.L) (hf : ¬ Fresh F s w x) {A : Option Addr} {c : Nat} : HR F (Y.heap' A m c L') s w K := by
  refine ⟨fun v hv => ?_, fun y hy => h.ids y (hp.mem_iff.1 (List.mem_cons_of_mem _ hy)), h.od, h.late, h.lr, by show m ≤ K; have := h.bm; omega, h.bl⟩
  have h1 := hp.mem_iff.2 (h.mem v hv)
  rcases List.mem_cons.1 h1 with e | h1
  · exact absurd ⟨by rw [← e]; exact h.od v hv, by rw [← e]; rfl⟩ hf
  · exact h1
/-- the next one is looked from -/
theorem HR.take {m : Nat} (h : HR F Y s w K) (hl : s.dn.length = F.n) (hm : Y.m = m + 1) {x : HeapP.Pop} {L' : List HeapP.Pop} (hp : (x :: L').Perm Y.L) {v : Int} (hv : 0 ≤ v ∧ v < F.n) (he : x.2.2 = v) {A : Option Addr} {c : Nat} : HR F (Y.heap' A m c L') (AraLaw.mark v s) w K := by
  have hdb : ∀ u : Int, 0 ≤ u → db (s.dn.set v.toNat true) u = if u = v then true else db s.dn u := fun u u0 => db_set hv.1 (by omega) u0
  refine ⟨fun u hu => ?_, fun y hy => ?_, fun u hu => ?_, h.late, h.lr, by show m ≤ K; have := h.bm; omega, h.bl⟩
  · have hne : u ≠ v := fun e => by
      have h2 := hu.2
      rw [e] at h2
      simp only [AraLaw.mark, up_eq] at h2
      cases h2
    have h2 : s.op u = true := by have := hu.2; simp only [AraLaw.mark, up_ne hne] at this; exact this
    have h1 := hp.mem_iff.2 (h.mem u ⟨hu.1, h2⟩)
    rcases List.mem_cons.1 h1 with e | h1
    · exact absurd (by rw [← e] at he; exact he) hne
    · exact h1
  · obtain ⟨h1, h2, h3⟩ := h.ids y (hp.mem_iff.1 (List.mem_cons_of_mem _ hy))
    refine ⟨h1, h2, fun hd => ?_⟩
    have hd' : db (s.dn.set v.toNat true) y.2.2 = false := hd
    rw [hdb _ h1.1] at hd'
    by_cases e : y.2.2 = v
    · rw [if_pos e] at hd'
      cases hd'
    · rw [if_neg e] at hd'
      show up s.op v false y.2.2 = true
      rw [up_ne e]
      exact h3 hd'
  · have hne : u ≠ v := fun e => by
      have h2 := hu.2
      rw [e] at h2
      simp only [AraLaw.mark, up_eq] at h2
      cases h2
    have h2 : s.op u = true := by have := hu.2; simp only [AraLaw.mark, up_ne hne] at this; exact this
    show db (s.dn.set v.toNat true) u = false
    rw [hdb _ hu.1.1, if_neg hne]
    exact h.od u ⟨hu.1, h2⟩
end
end Go.Proofs.Ytpoolpaagbeokaa.Ara

namespace Go.Proofs.Ytpoolpaagbeokaa.Ara
open Go.RowKit Go.Proofs.Ytpoolpaagbeokaa NetLaw BellLaw StarLaw AraLaw Go.Proofs.Ytpoolpaagbeokaa.Net Go.Proofs.Ytpoolpaagbeokaa.Std Go.Proofs.Ytpoolpaagbeokaa.Flow
open Go.Proofs.Ytpoolpaagbeokaa.Heap (Kp Kp.refl Kp.below Kp.alloc Kp.drew Kp.setCell Kp.grown Kp.to fnOf)
open Go.Proofs.Ytpoolpaagbeokaa.HeapP (HeapAt d0 ltP ltP_ord)
set_option linter.unusedSimpArgs false
set_option linter.unusedVariables false
/-- two rows of two types lie in two blocks -/
theorem own_apart {α β : Type} {w : World} {b b' : Nat} {e e' : TypeId} {sz sz' : Nat} {cell : α → Nat → Value} {cell' : β → Nat → Value} {v v' : Value} {l : List α} {l' : List β} (h : Own w b e sz cell v l) (h' : Own w b' e' sz' cell' v' l') (hne : e ≠ e') : v.ownBlock = none ∨ v.ownBlock ≠ v'.ownBlock := by
  rcases h'.2 with ⟨h1, _⟩ | ⟨g, cap, cur, hv, _, hh, _⟩
  · have : v'.ownBlock = none := by rw [h1]; rfl
    rw [this]
    cases hx : v.ownBlock with
    | none => exact .inl rfl
    | some g => exact .inr (fun e => by cases e)
  · have : v'.ownBlock = some g := by rw [hv]; rfl
    rw [this]
    exact .inr (h.ne_ hh hne)
theorem apart_of {x : Option Nat} {r : Option Nat} (h : ∀ g, r = some g → x ≠ some g) : x = none ∨ x ≠ r := by
  cases x with
  | none => exact .inl rfl
  | some g => exact .inr (fun e => h g e.symm rfl)
theorem heap_grown {w w' : World} {base H n c : Nat} {fn : Value} {A : Option Addr} {L : List HeapP.Pop} {r : Option Nat} (h : HeapAt w base H fn A n c L) (hg : w.grownBy w' r) (h1 : r ≠ some H) (h2 : (Value.slice A n c).ownBlock = none ∨ (Value.slice A n c).ownBlock ≠ r) : HeapAt w' base H fn A n c L :=
  ⟨h.hb, blk_grown h.blk hg h1, h.own.kept hg h2, h.len⟩
theorem tab_grown {w w' : World} {b S m : Nat} {G : Nat → Option Addr × Nat} {Ls : Nat → List Int} {r : Option Nat} (h : Tab w b S m G Ls) (hg : w.grownBy w' r) (h1 : r ≠ some S) (h2 : ∀ v, v < m → ob (G v).1 = none ∨ ob (G v).1 ≠ r) : Tab w' b S m G Ls := by
  obtain ⟨cs, hb, hs, hc⟩ := h.blk
  exact ⟨h.lo, ⟨cs, blk_grown hb hg h1, hs, hc⟩, fun v hv => (h.own v hv).kept hg (by rw [ob_]; exact h2 v hv), h.sep⟩
section
variable {b : Nat} {w w' : World} {P : Nat} {F : Fix} {Y : Var} {s : AS}
theorem AM.late_none (h : AM b w P F Y s) {g : Nat} (hr : (Value.slice Y.AL Y.kl Y.cl).ownBlock = some g) : ob Y.AL = some g := (ob_ ..).symm.trans hr
theorem obrow (A : Option Addr) (n c : Nat) : (Value.slice A n c).ownBlock = ob A := ob_ A n c
/-- one more is late -/
theorem AM.push (h : AM b w P F Y s) {A' : Option Addr} {c' : Nat} {x : Int} (hg : w.grownBy w' (Value.slice Y.AL Y.kl Y.cl).ownBlock) (ho : Own w' b 3 1 ci (.slice A' (Y.kl + 1) c') (Y.LT ++ [x])) (hat : (Value.slice A' (Y.kl + 1) c').ownBlock = (Value.slice Y.AL Y.kl Y.cl).ownBlock ∨ (Value.slice A' (Y.kl + 1) c').ownBlock = some w.heap.size) :
    AM b (w'.setCell ⟨P, 9, none⟩ (.slice A' (Y.kl + 1) c')) P F (Y.late' A' (Y.kl + 1) c' (Y.LT ++ [x])) s ∧ Fr P F Y (Y.late' A' (Y.kl + 1) c' (Y.LT ++ [x])) w (w'.setCell ⟨P, 9, none⟩ (.slice A' (Y.kl + 1) c')) := by
  rw [obrow] at hg hat
  rw [obrow] at hat
  have hn := h.neL
  have hobz : ∀ {g : Nat} {t : TypeId} {cs : Array Value} {fr : Nat × Nat}, w.heap[g]? = some (.cells cs t fr) → 3 ≠ t → ob Y.AL ≠ some g := fun hh hne e => h.late.ne_ hh hne ((ob_ ..).trans e)
  have hkt : ∀ {α : Type} {e : TypeId} {sz : Nat} {cell : α → Nat → Value} {v : Value} {l : List α}, Own w b e sz cell v l → e ≠ 3 → Own w' b e sz cell v l := fun hv hne => hv.kept hg (by have := own_apart hv h.late hne; rw [obrow Y.AL] at this; exact this)
  have hpz := hobz h.z (by decide)
  have hz' := blk_grown h.z hg hpz
  obtain ⟨cs, hti, _⟩ := h.tab.blk
  have hS : ∀ g, ob A' = some g → ob Y.AL = some g ∨ g = w.heap.size := fun g e => by
    rcases hat with h1 | h1
    · exact .inl (h1 ▸ e)
    · rw [e] at h1; injection h1 with h1; exact .inr h1
  have hfr : ∀ g, ob A' = some g → g ≠ P := fun g e ep => by
    subst ep
    rcases hS g e with h1 | h1
    · exact hpz h1
    · have := lt_of_block h.z; omega
  have hne2 : ∀ g, ob A' = some g → g ≠ F.SC ∧ g ≠ F.SP ∧ ob F.AH ≠ some g ∧ (∀ v, v < F.n → ob (F.FO v).1 ≠ some g) ∧ ∀ x ∈ Y.RS, ob x.A ≠ some g := fun g e => by
    rcases hS g e with h1 | rfl
    · exact hn g h1
    · refine ⟨fun e => ?_, fun e => ?_, fun e => ?_, fun v hv e => ?_, fun x hx e => ?_⟩
      · exact absurd (h.cost.base_ F.SC rfl).2 (by omega)
      · exact absurd (h.pred.base_ F.SP rfl).2 (by omega)
      · have := (h.hh.base_ _ ((ob_ ..).trans e)).2; omega
      · have := ((h.tab.own v hv).base_ _ ((ob_ ..).trans e)).2; omega
      · have := ((h.ways x hx).base_ _ ((ob_ ..).trans e)).2; omega
  have hti' := blk_grown hti hg (hobz hti (by decide))
  refine ⟨⟨blk_set hz' 9 _, h.zl, (hkt h.net (by decide)).setCell ((hkt h.net (by decide)).ne_ hz' (by decide)) _,
    tab_far (p := ⟨P, 9, none⟩) (tab_grown h.tab hg (hobz hti (by decide)) (fun v hv => apart_of fun g e => (hn g e).2.2.2.1 v hv)) (blk_ne hz' hti' (by decide)) (fun v hv e => (h.tab.own v hv).ne_ h.z (by decide) ((ob_ ..).trans e)) _,
    (h.hh.kept hg (by rw [obrow]; exact apart_of fun g e => (hn g e).2.2.1)).setCell (h.hh.ne_ h.z (by decide)) _, (hkt h.wt (by decide)).setCell (h.wt.ne_ h.z (by decide)) _,
    (h.cost.kept hg (by exact apart_of fun g e ee => (hn g e).1 (by injection ee with ee; exact ee.symm))).setCell (h.cost.ne_ h.z (by decide)) _, (h.pred.kept hg (by exact apart_of fun g e ee => (hn g e).2.1 (by injection ee with ee; exact ee.symm))).setCell (h.pred.ne_ h.z (by decide)) _,
    (hkt h.done (by decide)).setCell (h.done.ne_ h.z (by decide)) _, ho.setCell (fun e => hfr _ ((ob_ ..).symm.trans e) rfl) _,
    heap_far (heap_grown h.heap hg (hobz h.heap.blk (by decide)) (by have := own_apart h.heap.own h.late (by decide); rw [obrow Y.AL] at this; exact this)) hz' (by decide) (by decide) _, h.hp, (hkt h.rows (by decide)).setCell (h.rows.ne_ h.z (by decide)) _,
    fun x hx => ((h.ways x hx).kept hg (by rw [obrow]; exact apart_of fun g e => (hn g e).2.2.2.2 x hx)).setCell ((h.ways x hx).ne_ h.z (by decide)) _, h.rds, h.lenC, h.lenP, h.lenD, h.lenH, by show (Y.LT ++ [_]).length = Y.kl + 1; rw [List.length_append, h.lenL]; rfl, h.lenR, h.neCP, h.neH, h.neO, hne2, h.neW⟩, ?_⟩
  refine ⟨hg.os, hg.tape, hg.output, Nat.le_trans hg.size (by simp [World.setCell]), fun g hlt hm => (Below.heap_setCell _ _ _ _ (fun e => hm (.inl e))).trans (hg.block g hlt (fun e => hm (.inr (.inr (.inr (.inr (.inr (.inr (.inl e.symm))))))))), fun g hm => ?_, fun x hx => .inl hx⟩
  rcases hm with hm | hm | hm | hm | hm | hm | hm | hm
  · exact .inl (.inl hm)
  · exact .inl (.inr (.inl hm))
  · exact .inl (.inr (.inr (.inl hm)))
  · exact .inl (.inr (.inr (.inr (.inl hm))))
  · exact .inl (.inr (.inr (.inr (.inr (.inl hm)))))
  · exact .inl (.inr (.inr (.inr (.inr (.inr (.inl hm))))))
  · rcases hS g hm with e | e
    · exact .inl (.inr (.inr (.inr (.inr (.inr (.inr (.inl e)))))))
    · exact .inr (by omega)
  · exact .inl (.inr (.inr (.inr (.inr (.inr (.inr (.inr hm)))))))
/-- none is late any more -/
theorem AM.nolate (h : AM b w P F Y s) : AM b (w.setCell ⟨P, 9, none⟩ (.slice none 0 0)) P F (Y.late' none 0 0 []) s ∧ Fr P F Y (Y.late' none 0 0 []) w (w.setCell ⟨P, 9, none⟩ (.slice none 0 0)) := by
  obtain ⟨cs, hti, _⟩ := h.tab.blk
  refine ⟨⟨blk_set h.z 9 _, h.zl, h.net.setCell (h.net.ne_ h.z (by decide)) _, tab_far (p := ⟨P, 9, none⟩) h.tab (blk_ne h.z hti (by decide)) (fun v hv e => (h.tab.own v hv).ne_ h.z (by decide) ((ob_ ..).trans e)) _, h.hh.setCell (h.hh.ne_ h.z (by decide)) _, h.wt.setCell (h.wt.ne_ h.z (by decide)) _, h.cost.setCell (h.cost.ne_ h.z (by decide)) _, h.pred.setCell (h.pred.ne_ h.z (by decide)) _, h.done.setCell (h.done.ne_ h.z (by decide)) _, Own.nil_, heap_far h.heap h.z (by decide) (by decide) _, h.hp, h.rows.setCell (h.rows.ne_ h.z (by decide)) _, fun x hx => (h.ways x hx).setCell ((h.ways x hx).ne_ h.z (by decide)) _, h.rds, h.lenC, h.lenP, h.lenD, h.lenH, rfl, h.lenR, h.neCP, h.neH, h.neO, (fun g e => by cases e), h.neW⟩, ?_⟩
  refine ⟨rfl, rfl, rfl, by simp [World.setCell], fun g hlt hm => (Below.heap_setCell _ _ _ _ (fun e => hm (.inl e))), fun g hm => ?_, fun x hx => .inl hx⟩
  rcases hm with hm | hm | hm | hm | hm | hm | hm | hm
  · exact .inl (.inl hm)
  · exact .inl (.inr (.inl hm))
  · exact .inl (.inr (.inr (.inl hm)))
  · exact .inl (.inr (.inr (.inr (.inl hm))))
  · exact .inl (.inr (.inr (.inr (.inr (.inl hm)))))
  · exact .inl (.inr (.inr (.inr (.inr (.inr (.inl hm))))))
  · cases hm
  · exact .inl (.inr (.inr (.inr (.inr (.inr (.inr (.inr hm)))))))
/-- the rounds lie elsewhere -/
def Var.rows' (Y : Var) (A : Option Addr) (k c : Nat) (RS : List RE) : Var := { Y with AR := A, kr := k, cr := c, RS := RS }
/-- one more round -/
theorem AM.round (h : AM b w P F Y s) {A' : Option Addr} {c' : Nat} {x : RE} (hg : w.grownBy w' (Value.slice Y.AR Y.kr Y.cr).ownBlock) (ho : Own w' b 43 5 Ara.cr (.slice A' (Y.kr + 1) c') (Y.RS ++ [x])) (hat : (Value.slice A' (Y.kr + 1) c').ownBlock = (Value.slice Y.AR Y.kr Y.cr).ownBlock ∨ (Value.slice A' (Y.kr + 1) c').ownBlock = some w.heap.size)
    (hx : Own w b 3 1 ci (.slice x.A x.k x.c) x.path) (hx1 : ob x.A ≠ some F.SC ∧ ob x.A ≠ some F.SP) (hx2 : ∀ g, ob Y.AL = some g → ob x.A ≠ some g) :
    AM b (w'.setCell ⟨P, 12, none⟩ (.slice A' (Y.kr + 1) c')) P F (Y.rows' A' (Y.kr + 1) c' (Y.RS ++ [x])) { s with rds := s.rds ++ [x.rnd] } := by
  rw [obrow] at hg hat
  rw [obrow] at hat
  have hobz : ∀ {g : Nat} {t : TypeId} {cs : Array Value} {fr : Nat × Nat}, w.heap[g]? = some (.cells cs t fr) → 43 ≠ t → ob Y.AR ≠ some g := fun hh hne e => h.rows.ne_ hh hne ((ob_ ..).trans e)
  have hkt : ∀ {α : Type} {e : TypeId} {sz : Nat} {cell : α → Nat → Value} {v : Value} {l : List α}, Own w b e sz cell v l → e ≠ 43 → Own w' b e sz cell v l := fun hv hne => hv.kept hg (by have := own_apart hv h.rows hne; rw [obrow Y.AR] at this; exact this)
  have hpz := hobz h.z (by decide)
  have hz' := blk_grown h.z hg hpz
  obtain ⟨cs, hti, _⟩ := h.tab.blk
  have hS : ∀ g, ob A' = some g → ob Y.AR = some g ∨ g = w.heap.size := fun g e => by
    rcases hat with h1 | h1
    · exact .inl (h1 ▸ e)
    · rw [e] at h1; injection h1 with h1; exact .inr h1
  have hfr : ∀ g, ob A' = some g → g ≠ P := fun g e ep => by
    subst ep
    rcases hS g e with h1 | h1
    · exact hpz h1
    · have := lt_of_block h.z; omega
  have hti' := blk_grown hti hg (hobz hti (by decide))
  have hway : ∀ y ∈ Y.RS ++ [x], Own w b 3 1 ci (.slice y.A y.k y.c) y.path := fun y hy => by
    rcases List.mem_append.1 hy with hy | hy
    · exact h.ways y hy
    · rw [List.mem_singleton] at hy; subst hy; exact hx
  exact ⟨blk_set hz' 12 _, h.zl, (hkt h.net (by decide)).setCell (h.net.ne_ h.z (by decide)) _,
    tab_far (p := ⟨P, 12, none⟩) (tab_grown h.tab hg (hobz hti (by decide)) (fun v hv => by have := own_apart (h.tab.own v hv) h.rows (by decide); rw [obrow, obrow] at this; exact this)) (blk_ne hz' hti' (by decide)) (fun v hv e => (h.tab.own v hv).ne_ h.z (by decide) ((ob_ ..).trans e)) _,
    (hkt h.hh (by decide)).setCell (h.hh.ne_ h.z (by decide)) _, (hkt h.wt (by decide)).setCell (h.wt.ne_ h.z (by decide)) _,
    (hkt h.cost (by decide)).setCell (h.cost.ne_ h.z (by decide)) _, (hkt h.pred (by decide)).setCell (h.pred.ne_ h.z (by decide)) _,
    (hkt h.done (by decide)).setCell (h.done.ne_ h.z (by decide)) _, (hkt h.late (by decide)).setCell (h.late.ne_ h.z (by decide)) _,
    heap_far (heap_grown h.heap hg (hobz h.heap.blk (by decide)) (by have := own_apart h.heap.own h.rows (by decide); rw [obrow Y.AR] at this; exact this)) hz' (by decide) (by decide) _, h.hp, ho.setCell (fun e => hfr _ ((ob_ ..).symm.trans e) rfl) _,
    fun y hy => (hkt (hway y hy) (by decide)).setCell ((hway y hy).ne_ h.z (by decide)) _, by show (Y.RS ++ [x]).map RE.rnd = s.rds ++ [x.rnd]; rw [List.map_append, h.rds]; rfl, h.lenC, h.lenP, h.lenD, h.lenH, h.lenL, by show (Y.RS ++ [_]).length = Y.kr + 1; rw [List.length_append, h.lenR]; rfl, h.neCP, h.neH, h.neO,
    fun g hgl => ⟨(h.neL g hgl).1, (h.neL g hgl).2.1, (h.neL g hgl).2.2.1, (h.neL g hgl).2.2.2.1, fun y hy => by
      rcases List.mem_append.1 hy with hy | hy
      · exact (h.neL g hgl).2.2.2.2 y hy
      · rw [List.mem_singleton] at hy; subst hy; exact hx2 g hgl⟩, fun y hy => by
      rcases List.mem_append.1 hy with hy | hy
      · exact h.neW y hy
      · rw [List.mem_singleton] at hy; subst hy; exact hx1⟩
theorem Fr.round {A' : Option Addr} {c' : Nat} {x : RE} {w1 : World} (hw : w.heap.size ≤ w1.heap.size) (hg : w1.grownBy w' (Value.slice Y.AR Y.kr Y.cr).ownBlock) (hb : Below w.heap.size w w1) (hat : (Value.slice A' (Y.kr + 1) c').ownBlock = (Value.slice Y.AR Y.kr Y.cr).ownBlock ∨ (Value.slice A' (Y.kr + 1) c').ownBlock = some w1.heap.size) (hx : ∀ g, ob x.A = some g → w.heap.size ≤ g) :
    Fr P F Y (Y.rows' A' (Y.kr + 1) c' (Y.RS ++ [x])) w (w'.setCell ⟨P, 12, none⟩ (.slice A' (Y.kr + 1) c')) := by
  rw [obrow] at hg hat
  rw [obrow] at hat
  refine ⟨hg.os.trans hb.os, hg.tape.trans hb.tape, hg.output.trans hb.output, Nat.le_trans (Nat.le_trans hw hg.size) (by simp [World.setCell]), fun g hlt hm => (Below.heap_setCell _ _ _ _ (fun e => hm (.inl e))).trans ((hg.block g (by omega) (fun e => hm (.inr (.inr (.inr (.inr (.inr (.inr (.inr e.symm))))))))).trans (hb.block g hlt)), fun g hm => ?_, fun y hy => ?_⟩
  · rcases hm with hm | hm | hm | hm | hm | hm | hm | hm
    · exact .inl (.inl hm)
    · exact .inl (.inr (.inl hm))
    · exact .inl (.inr (.inr (.inl hm)))
    · exact .inl (.inr (.inr (.inr (.inl hm))))
    · exact .inl (.inr (.inr (.inr (.inr (.inl hm)))))
    · exact .inl (.inr (.inr (.inr (.inr (.inr (.inl hm))))))
    · exact .inl (.inr (.inr (.inr (.inr (.inr (.inr (.inl hm)))))))
    · have hm' : ob A' = some g := hm
      rcases hat with h1 | h1
      · exact .inl (.inr (.inr (.inr (.inr (.inr (.inr (.inr (h1 ▸ hm'))))))))
      · rw [hm'] at h1; injection h1 with h1; exact .inr (by omega)
  · rcases List.mem_append.1 hy with hy | hy
    · exact .inl hy
    · rw [List.mem_singleton] at hy; subst hy; exact .inr hx
end
end Go.Proofs.Ytpoolpaagbeokaa.Ara
