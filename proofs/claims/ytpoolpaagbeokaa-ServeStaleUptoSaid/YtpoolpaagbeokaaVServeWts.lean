/- The walk of (*serve.Service).Edit. -/
/- The small ground of serve's laws: one request there, one step. -/
/- Edit, whatever is asked for: the service stays a service, and a request stays that request. -/
/- A service beside other things in memory: what is written elsewhere leaves it. How many steps there are. -/
/- The walk of (*serve.Service).Poll: a request that was told something on other ground. -/
/- Two services side by side, and when two answers are the same. -/
/- The weight of a slot's last round; grids that are the same or not; a frame that ends all. -/
import Derived.Test.YtpoolpaagbeokaaVServeUse
import Derived.Test.YtpoolpaagbeokaaVAraUse2
namespace Go.Proofs.Ytpoolpaagbeokaa.Serve
open Go.RowKit Go.Proofs.Ytpoolpaagbeokaa NetLaw BellLaw StarLaw AraLaw Go.Proofs.Ytpoolpaagbeokaa.Net Go.Proofs.Ytpoolpaagbeokaa.Std Go.Proofs.Ytpoolpaagbeokaa.Flow Go.Proofs.Ytpoolpaagbeokaa.Ara Go.Proofs.Ytpoolpaagbeokaa.GroundLaw
open Go.Proofs.Ytpoolpaagbeokaa.GridLaw hiding E
open Go.Proofs.Ytpoolpaagbeokaa.ServeLaw
set_option linter.unusedSimpArgs false
set_option linter.unusedVariables false
theorem good_set {W H : Int} {l : List Int} (h : GGood W H l) {k : Nat} {v : Int} (h0 : 0 ≤ v) (h9 : v ≤ 9) : GGood W H (l.set k v) :=
  ⟨h.w1, h.w8, h.h1, h.h8, by rw [List.length_set]; exact h.len, fun c hc => by
    rcases List.mem_or_eq_of_mem_set hc with e | e
    · exact h.cell c e
    · subst e; exact ⟨h0, h9⟩⟩
/-- what an edit makes of a request -/
structure Ed1 (g g' : Slt) : Prop where
  f : g'.f = g.f
  t : g'.F.tt = g.F.tt
  ws : g'.F.ws = g.F.ws
  k : g'.k = 0
  told : (g.s.rds = [] ∧ g'.T.rnd = g.T.rnd ∧ g'.sm = g.sm) ∨ (∃ R0 r, g.s.rds = R0 ++ [r] ∧ g'.T.rnd = r ∧ g'.sm = true)
/-- the requests below k are edited -/
def EdTo (k : Nat) (σ σ1 : Nat → Option Slt) : Prop := ∀ j, (σ j = none ∧ σ1 j = none) ∨ ∃ g g', σ j = some g ∧ σ1 j = some g' ∧ (j < k → Ed1 g g') ∧ (k ≤ j → g' = g)
theorem Off.set_ {D : Nat → Prop} {w w' : World} (h : Off D w w') {p : Addr} (hp : D p.block) (v : Value) : Off D w (w'.setCell p v) :=
  ⟨h.os, h.tape, h.output, by simp only [World.setCell, Array.size_modify]; exact h.size, fun g hg hn => (Below.heap_setCell _ _ _ _ (fun e => hn (by rw [e]; exact hp))).trans (h.block g hg hn)⟩
theorem EdTo.start (σ : Nat → Option Slt) : EdTo 0 σ σ := fun j => by
  cases h : σ j with
  | none => exact .inl ⟨rfl, rfl⟩
  | some g => exact .inr ⟨g, g, rfl, rfl, fun h => by omega, fun _ => rfl⟩
theorem EdTo.skip {k : Nat} {σ σ1 : Nat → Option Slt} (h : EdTo k σ σ1) (hn : σ1 k = none) : EdTo (k + 1) σ σ1 := fun j => by
  rcases h j with h1 | ⟨g, g', e1, e2, h1, h2⟩
  · exact .inl h1
  · refine .inr ⟨g, g', e1, e2, fun hj => h1 ?_, fun hj => h2 (by omega)⟩
    by_cases e : j = k
    · subst e; rw [hn] at e2; cases e2
    · omega
theorem EdTo.at_ {k : Nat} {σ σ1 : Nat → Option Slt} (h : EdTo k σ σ1) : σ1 k = σ k := by
  rcases h k with ⟨e, e'⟩ | ⟨g, g', e, e', _, h2⟩
  · rw [e, e']
  · rw [e, e', h2 (Nat.le_refl _)]
theorem EdTo.take {k : Nat} {σ σ1 : Nat → Option Slt} (h : EdTo k σ σ1) {g g' : Slt} (hg : σ1 k = some g) (he : Ed1 g g') : EdTo (k + 1) σ (upd1 σ1 k (some g')) := fun j => by
  by_cases e : j = k
  · subst e
    rcases h j with ⟨_, e2⟩ | ⟨g0, g1, e1, e2, _, h2⟩
    · rw [hg] at e2; cases e2
    · obtain rfl := h2 (Nat.le_refl _)
      rw [hg] at e2
      injection e2 with e2
      subst e2
      exact .inr ⟨g, g', e1, upd1_eq .., fun _ => he, fun hj => by omega⟩
  · rw [upd1_ne _ _ e]
    rcases h j with h1 | ⟨g0, g1, e1, e2, h1, h2⟩
    · exact .inl h1
    · exact .inr ⟨g0, g1, e1, e2, fun hj => h1 (by omega), fun hj => h2 (by omega)⟩
section
variable {b0 : Nat} {w w' : World} {Z : Nat} {W H : Int} {AC : Option Addr} {cC : Nat} {l : List Int} {turn : Nat} {σ : Nat → Option Slt} {D : Nat → Nat → Prop} {M : Nat → List E}
theorem SVM.skip (h : SVM b0 w Z W H AC cC l turn σ D M) {i : Nat} (hn : σ i = none) (m : List E) : SVM b0 w Z W H AC cC l turn σ D (upd1 M i m) :=
  ⟨h.z, h.zl, h.cells, h.good, h.tl, fun j hj g e => by
    by_cases e2 : j = i
    · subst e2; rw [hn] at e; cases e
    · rw [upd1_ne _ _ e2]; exact h.slot j hj g e, h.sepD, h.out, h.dom⟩
/-- an edit under way: the requests below k are edited -/
structure Eu (b0 : Nat) (w : World) (Z : Nat) (W H : Int) (AC : Option Addr) (cC : Nat) (l : List Int) (turn : Nat) (σ : Nat → Option Slt) (D : Nat → Nat → Prop) (k : Nat) (σ1 : Nat → Option Slt) (D1 : Nat → Nat → Prop) (M : Nat → List E) (w1 : World) : Prop where
  sv : SVM b0 w1 Z W H AC cC l turn σ1 D1 M
  net : ∀ j, j < k → M j = allM W H l l.length
  ed : EdTo k σ σ1
  off : Off (fun g => g = Z ∨ ob AC = some g ∨ DS D g) w w1
  new : ∀ g, DS D1 g → DS D g ∨ w.heap.size ≤ g
theorem Eu.keep {k : Nat} {σ1 : Nat → Option Slt} {D1 : Nat → Nat → Prop} {w1 w2 : World} (h : Eu b0 w Z W H AC cC l turn σ D k σ1 D1 M w1) (hb : Below w1.heap.size w1 w2) : Eu b0 w Z W H AC cC l turn σ D k σ1 D1 M w2 :=
  ⟨h.sv.keep hb, h.net, h.ed, h.off.below_ hb, h.new⟩
theorem Eu.skip {k : Nat} {σ1 : Nat → Option Slt} {D1 : Nat → Nat → Prop} {w1 : World} (h : Eu b0 w Z W H AC cC l turn σ D k σ1 D1 M w1) (hn : σ1 k = none) : Eu b0 w Z W H AC cC l turn σ D (k + 1) σ1 D1 (upd1 M k (allM W H l l.length)) w1 :=
  ⟨h.sv.skip hn _, fun j hj => by
    by_cases e : j = k
    · subst e; exact upd1_eq ..
    · rw [upd1_ne _ _ e]; exact h.net j (by omega), h.ed.skip hn, h.off, h.new⟩
theorem Eu.take {k : Nat} (hk : k < 6) {σ1 : Nat → Option Slt} {D1 : Nat → Nat → Prop} {w1 w2 : World} (h : Eu b0 w Z W H AC cC l turn σ D k σ1 D1 M w1) {g g' : Slt} (hg : σ1 k = some g) (he : Ed1 g g') (hQ : g'.Q = g.Q) (hs : SL b0 w2 l.length (allM W H l l.length) (grow (D1 k) w1 w2) g') (ho : Off (fun x => x = g.Q) w1 w2) :
    Eu b0 w Z W H AC cC l turn σ D (k + 1) (upd1 σ1 k (some g')) (upd1 D1 k (grow (D1 k) w1 w2)) (upd1 M k (allM W H l l.length)) w2 := by
  have hQD : D1 k g.Q := (h.sv.slot k hk g hg).inn _ (.inl rfl)
  have ho2 : Off (D1 k) w1 w2 := ho.more fun x e => by rw [e]; exact hQD
  refine ⟨h.sv.change hk hg hQ hs ho2, fun j hj => ?_, h.ed.take hg he, h.off.trans ho2 (fun x hx => ?_), fun x hx => ?_⟩
  · by_cases e : j = k
    · subst e; exact upd1_eq ..
    · rw [upd1_ne _ _ e]; exact h.net j (by omega)
  · rcases h.new x ⟨k, hk, hx⟩ with e | e
    · exact .inl (.inr (.inr e))
    · exact .inr e
  · obtain ⟨i, hi6, hyi⟩ := hx
    by_cases e : i = k
    · subst e
      rw [upd1_eq] at hyi
      rcases hyi with hyi | ⟨hyi, _⟩
      · exact h.new x ⟨i, hi6, hyi⟩
      · exact .inr (Nat.le_trans h.off.size hyi)
    · rw [upd1_ne _ _ e] at hyi
      exact h.new x ⟨i, hi6, hyi⟩
/-- what Edit answers where it changes the ground -/
def EditSays (b0 : Nat) (w : World) (Z : Nat) (W H : Int) (AC : Option Addr) (cC : Nat) (l : List Int) (turn : Nat) (σ : Nat → Option Slt) (D : Nat → Nat → Prop) (e : Ending) (w' : World) : Prop :=
  e = .returned (.int .i64 0) ∧ ∃ σ' D', SV b0 w' Z W H AC cC l turn σ' D' ∧ EdTo 6 σ σ' ∧ Off (fun g => g = Z ∨ ob AC = some g ∨ DS D g) w w' ∧ ∀ g, DS D' g → DS D g ∨ w.heap.size ≤ g
theorem Eu.end_ {σ1 : Nat → Option Slt} {D1 : Nat → Nat → Prop} {w1 : World} (h : Eu b0 w Z W H AC cC l turn σ D 6 σ1 D1 M w1) : EditSays b0 w Z W H AC cC l turn σ D (.returned (.int .i64 0)) w1 :=
  ⟨rfl, σ1, D1, h.sv.toSV h.net, h.ed, h.off, h.new⟩
/-- the search of a slot's request on the ground of now -/
theorem search_slot {w2 : World} {n : Nat} {m : List E} {Dk : Nat → Prop} {g : Slt} (h : SVM b0 w Z W H AC cC l turn σ D M) (hg : SL b0 w n m Dk g) (hn : n = l.length) (hd : ∀ x, Dk x → x ≠ Z ∧ ob AC ≠ some x) (ho : Off (fun x => x = g.Q) w w2) (T : RE) (sm : Bool) :
    Calls Try.prog 33 #[.pointer (some ⟨Z, 0, none⟩), askV g.f g.F.tt g.AW g.F.ws.length g.cW T sm] w2 fun e w' => SearchYes l.length g.f g.F.tt (allM W H l l.length) g.F.ws w2 e w' := by
  have hQ := hd _ (hg.inn _ (.inl rfl))
  have hz := blk_off h.z ho (fun e => hQ.1 e.symm)
  have hc := own_off h.cells ho (fun x e e2 => hQ.2 (e2 ▸ e))
  have hw := own_off hg.wt ho (fun x e e2 => hg.wt.ne_ hg.z (by decide) ((ob_ ..).trans (e2 ▸ e)))
  have hAw : g.AW = none → g.F.ws.length = 0 ∧ g.cW = 0 := by
    obtain ⟨A9, c9, e9, _, h9⟩ := hw.form
    injection e9 with e1 e2 e3
    subst e1 e3
    exact h9
  obtain ⟨e1, _, _⟩ := hg.net
  have hf := hg.po.fr
  have ht := hg.fo.tt
  exact search_yes Z W H AC cC l g.f g.F.tt g.AW g.cW g.F.ws T sm w2 hc.sl.2 h.good hw.sl.2 hAw (by omega) (by omega) hg.wc (blk_cell hz 0) (blk_cell hz 1) (blk_cell hz 2) (lt_of_block hz)
/-- the slot behind an edit -/
theorem SL.redo {n : Nat} {m m' : List E} {Dk : Nat → Prop} {g : Slt} {w2 w3 : World} (h : SL b0 w n m Dk g) (hb0 : b0 ≤ w.heap.size) (ho2 : Off (fun x => x = g.Q) w w2) (hb3 : Below w2.heap.size w2 w3) {T : RE} {sm : Bool} {P b : Nat} {FF : Fix} {Y : Var} {s : AS} (e1 : FF.n = n) (e2 : FF.tt = g.F.tt) (e3 : FF.l = m') (e4 : FF.h = ServeLaw.zs n) (e5 : FF.ws = g.F.ws) (fo : FO FF) (po : PO FF g.f) (hb : w2.heap.size ≤ b) (sr : SR b w3 P FF Y g.f 0 s)
    (hz : w2.heap[g.Q]? = some (.cells #[.pointer (some ⟨g.P, 0, none⟩), .int .i64 g.f, .int .i64 g.F.tt, .slice g.AW g.F.ws.length g.cW, .int .i64 T.num, .int .i64 T.den, .slice T.A T.k T.c, .int .i64 T.cost, .int .i64 T.done, .bool sm] 89 (0, 0)))
    (hT : Own w2 b0 3 1 ci (.slice T.A T.k T.c) T.path) (hk : T.k ≤ 64) (hTn : ∀ x, ob T.A = some x → Dk x ∨ w.heap.size ≤ x) :
    SL b0 (w3.setCell ⟨g.Q, 0, none⟩ (.pointer (some ⟨P, 0, none⟩))) n m' (grow Dk w (w3.setCell ⟨g.Q, 0, none⟩ (.pointer (some ⟨P, 0, none⟩)))) ⟨g.Q, P, b, FF, Y, s, g.f, 0, g.AW, g.cW, T, sm⟩ ∧ Off (fun x => x = g.Q) w (w3.setCell ⟨g.Q, 0, none⟩ (.pointer (some ⟨P, 0, none⟩))) := by
  have hQ2 := lt_of_block hz
  have ho3 : Off (fun x => x = g.Q) w (w3.setCell ⟨g.Q, 0, none⟩ (.pointer (some ⟨P, 0, none⟩))) :=
    (ho2.below_ hb3).trans (w' := w3) (D' := fun x => x = g.Q) ⟨rfl, rfl, rfl, by simp [World.setCell], fun x hg hn => Below.heap_setCell _ _ _ _ hn⟩ (fun x hx => .inl hx)
  have hz3 := blk_below hz hb3 hQ2
  have hz4 := blk_set hz3 0 (.pointer (some ⟨P, 0, none⟩))
  have hsr : SR b (w3.setCell ⟨g.Q, 0, none⟩ (.pointer (some ⟨P, 0, none⟩))) P FF Y g.f 0 s :=
    ⟨sr.run, ⟨sr.sm.am.far (p := ⟨g.Q, 0, none⟩) (fun ha => by have h1 := (sr.sm.am.all ha).1; dsimp only at h1; omega) _, sr.sm.hr, sr.sm.cb⟩, sr.top⟩
  have hTQ : ∀ x, ob T.A = some x → x ≠ g.Q := fun x e e2 => hT.ne_ hz (by decide) ((ob_ ..).trans (e2 ▸ e))
  refine ⟨h.renew hb0 rfl rfl rfl e5 ho3 ?_ hsr fo po ⟨e1, e3, e4⟩ ?_ hk (fun x e => ⟨hTn x e, Nat.lt_of_lt_of_le (hT.base_ x ((ob_ ..).trans e)).2 hb⟩) (Nat.le_trans ho2.size hb), ho3⟩
  · rw [hz4]
    unfold slotC
    dsimp only
    rw [e2, e5]
    rfl
  · exact (hT.keep hb3).setCell (p := ⟨g.Q, 0, none⟩) (fun e => hTQ g.Q ((ob_ ..).symm.trans e) rfl) _

set_option maxRecDepth 100000 in
set_option maxHeartbeats 8000000 in
/-- no such cell, or no such ground -/
theorem edit_bad (h : SV b0 w Z W H AC cC l turn σ D) (k v : Int) (hb : k < 0 ∨ (l.length : Int) ≤ k ∨ v < 0 ∨ 9 < v) :
    Calls Try.prog 23 #[.pointer (some ⟨Z, 0, none⟩), .int .i64 k, .int .i64 v] w fun e w' => e = .returned (.int .i64 (if k < 0 ∨ (l.length : Int) ≤ k then 1 else 4)) ∧ Below w.heap.size w w' := by
  obtain ⟨z0, z1, z2, _, _, zp⟩ := h.zs
  have hll := size_bd h.good
  clear h
  generalize l.length = n at *
  by_cases h0 : k < 0
  · have e : (if k < 0 ∨ (n : Int) ≤ k then (1 : Int) else 4) = 1 := if_pos (.inl h0)
    rw [e]
    clear e hb
    go_enter Try.func23, Try.ntmps23
    go_wp2
    go_ret
    exact ⟨rfl, Below.refl _ _⟩
  · by_cases h1 : (n : Int) ≤ k
    · have e : (if k < 0 ∨ (n : Int) ≤ k then (1 : Int) else 4) = 1 := if_pos (.inr h1)
      rw [e]
      clear e hb
      go_enter Try.func23, Try.ntmps23
      go_wp2
      go_ret
      exact ⟨rfl, Below.refl _ _⟩
    · have e : (if k < 0 ∨ (n : Int) ≤ k then (1 : Int) else 4) = 4 := if_neg (by omega)
      rw [e]
      clear e
      by_cases h2 : v < 0
      · clear hb
        go_enter Try.func23, Try.ntmps23
        go_wp2
        go_ret
        exact ⟨rfl, Below.refl _ _⟩
      · have h3 : 9 < v := by omega
        clear hb
        go_enter Try.func23, Try.ntmps23
        go_wp2
        go_ret
        exact ⟨rfl, Below.refl _ _⟩
set_option maxRecDepth 100000 in
set_option maxHeartbeats 8000000 in
/-- the ground is so already -/
theorem edit_same (h : SV b0 w Z W H AC cC l turn σ D) (k : Nat) (hk : k < l.length) (v : Int) (h0 : 0 ≤ v) (h9 : v ≤ 9) (he : l.getD k 0 = v) :
    Calls Try.prog 23 #[.pointer (some ⟨Z, 0, none⟩), .int .i64 k, .int .i64 v] w fun e w' => e = .returned (.int .i64 0) ∧ Below w.heap.size w w' := by
  obtain ⟨z0, z1, z2, _, _, zp⟩ := h.zs
  have hll := size_bd h.good
  obtain ⟨S, c', hv, -, hS, -, -⟩ := h.cells.some_ (by omega)
  injection hv with hA e2 e3
  clear e2 e3
  subst hA
  obtain ⟨y0, y1⟩ := own_atG (0 : Int) rfl h.cells hk
  simp only [ci] at y0
  rw [he] at y0
  clear h he
  have zk : ¬ (k : Int) < 0 := by omega
  have zk2 : ¬ (l.length : Int) ≤ k := by omega
  have zk3 : (k : Int) < l.length := by omega
  have v0 : ¬ v < 0 := by omega
  have v9 : ¬ 9 < v := by omega
  generalize l.length = n at *
  go_enter Try.func23, Try.ntmps23
  go_wp2
  go_ret
  exact ⟨rfl, Below.refl _ _⟩
set_option maxRecDepth 100000 in
set_option maxHeartbeats 16000000 in
/-- the ground changes, and each request is searched for anew -/
theorem edit_yes (h : SV b0 w Z W H AC cC l turn σ D) (k : Nat) (hk : k < l.length) (v : Int) (h0 : 0 ≤ v) (h9 : v ≤ 9) (he : l.getD k 0 ≠ v) :
    Calls Try.prog 23 #[.pointer (some ⟨Z, 0, none⟩), .int .i64 k, .int .i64 v] w fun e w' => EditSays b0 w Z W H AC cC (l.set k v) turn σ D e w' := by
  obtain ⟨z0, z1, z2, _, _, zp⟩ := h.zs
  have hll := size_bd h.good
  obtain ⟨S, c', hv, -, hS, -, -⟩ := h.cells.some_ (by omega)
  injection hv with hA e2 e3
  clear e2 e3
  subst hA
  obtain ⟨y0, y1⟩ := own_atG (0 : Int) rfl h.cells hk
  simp only [ci] at y0
  obtain ⟨svm, hof⟩ := h.ground_ rfl hk (good_set h.good (k := k) h0 h9)
  have hne : (l.getD k 0 == v) = false := by simpa using he
  have hEu : Eu b0 w Z W H (some ⟨S, 0, none⟩) cC (l.set k v) turn σ D 0 σ D (fun _ => allM W H l l.length) (w.setCell ⟨S, k, none⟩ (.int .i64 v)) :=
    ⟨svm, fun j hj => by omega, EdTo.start σ, hof.more (fun x hx => .inr (.inl hx)), fun x hx => .inl hx⟩
  have HE := Lib.hid hEu
  clear h he hof hEu
  have zk : ¬ (k : Int) < 0 := by omega
  have zk2 : ¬ (l.length : Int) ≤ k := by omega
  have zk3 : (k : Int) < l.length := by omega
  have v0 : ¬ v < 0 := by omega
  have v9 : ¬ 9 < v := by omega
  generalize hx : l.getD k 0 = x at *
  have HL := Lib.hid hx
  clear hx
  have hlen : (l.set k v).length = l.length := List.length_set
  generalize l.set k v = l2 at *
  rw [← hlen] at z2 hll zk2 zk3 hk
  clear hlen HL svm
  generalize hn : l2.length = n at z2 hll zk2 zk3 hk
  have HLN := Lib.hid hn
  clear hn
  go_enter Try.func23, Try.ntmps23
  go_upto_region 8 with fail
  generalize w.setCell ⟨S, k, none⟩ (.int .i64 v) = w1 at HE ⊢
  have a0 : w1.cell? ⟨Z, 3, none⟩ = some (sp (σ 0)) := (HE.out.sv.at_ (i := 0) (by decide)).1
  have a1 : w1.cell? ⟨Z, 4, none⟩ = some (sp (σ 1)) := (HE.out.sv.at_ (i := 1) (by decide)).1
  have a2 : w1.cell? ⟨Z, 5, none⟩ = some (sp (σ 2)) := (HE.out.sv.at_ (i := 2) (by decide)).1
  have a3 : w1.cell? ⟨Z, 6, none⟩ = some (sp (σ 3)) := (HE.out.sv.at_ (i := 3) (by decide)).1
  have a4 : w1.cell? ⟨Z, 7, none⟩ = some (sp (σ 4)) := (HE.out.sv.at_ (i := 4) (by decide)).1
  have a5 : w1.cell? ⟨Z, 8, none⟩ = some (sp (σ 5)) := (HE.out.sv.at_ (i := 5) (by decide)).1
  clear z0 z1 z2 y0 y1 hne v0 v9 zk zk2 zk3
  have zp1 := HE.out.sv.zs.2.2.2.2.2
  go_wp2
  go_loopw [50] (fun j wr => ∃ (i : Nat) (σ1 : Nat → Option Slt) (D1 : Nat → Nat → Prop) (M1 : Nat → List E), j = .int .i64 i ∧ i ≤ 6 ∧ Hid (Eu b0 w Z W H (some ⟨S, 0, none⟩) cC l2 turn σ D i σ1 D1 M1 wr)) (fun j _ => 6 - (intOf j).toNat)
  case atStart => exact ⟨0, _, _, _, rfl, by decide, HE⟩
  case round =>
    obtain ⟨i, σ1, D1, M1, rfl, hi6, HEU⟩ := hrel
    clear HE a0 a1 a2 a3 a4 a5 zp1
    by_cases hk6 : i < 6
    · have hidx : ∀ u, (Instr.index 82 (.agg #[sp (σ 0), sp (σ 1), sp (σ 2), sp (σ 3), sp (σ 4), sp (σ 5)]) (.int .i64 (i : Int))).run Try.prog u = .ok (sp (σ i)) u := by
        have hc : i = 0 ∨ i = 1 ∨ i = 2 ∨ i = 3 ∨ i = 4 ∨ i = 5 := by omega
        intro u
        rcases hc with rfl | rfl | rfl | rfl | rfl | rfl <;> rfl
      have zk : (i : Int) < 6 := by omega
      rw [← HEU.out.ed.at_] at hidx
      cases hg : σ1 i with
      | none =>
        rw [hg] at hidx
        have hidx2 : ∀ u, (Instr.index 82 (.agg #[sp (σ 0), sp (σ 1), sp (σ 2), sp (σ 3), sp (σ 4), sp (σ 5)]) (.int .i64 (i : Int))).run Try.prog u = .ok (.pointer none) u := hidx
        have HE2 := Lib.hid (HEU.out.skip hg)
        clear hidx hg HEU
        go_wp2
        go_roundw
        case rel => exact ⟨i + 1, _, _, _, by go_num, hk6, HE2⟩
        case measure => simp [intOf]; omega
      | some g =>
        rw [hg] at hidx
        have hidx2 : ∀ u, (Instr.index 82 (.agg #[sp (σ 0), sp (σ 1), sp (σ 2), sp (σ 3), sp (σ 4), sp (σ 5)]) (.int .i64 (i : Int))).run Try.prog u = .ok (.pointer (some ⟨g.Q, 0, none⟩)) u := hidx
        have HG := Lib.hid hg
        have hsl := HEU.out.sv.slot i hk6 g hg
        have q0 := blk_cell hsl.z 0
        have zq := lt_of_block hsl.z
        simp only [List.getElem?_toArray, List.getElem?_cons_zero, List.getElem?_cons_succ] at q0
        obtain ⟨hp1, hp2⟩ := SI.paths (hsl.sr.si hsl.fo hsl.po)
        have krd := rounds_any hsl.sr.sm.am hp1 (by have := hsl.fo.wl; omega)
        have KRD := Lib.hid krd
        have HSL := Lib.hid hsl
        have HP1 := Lib.hid hp1
        clear hidx hg hsl krd hp1 hp2
        go_wp2_with fail
        refine KRD.out.mono ?_
        rintro e w2 ⟨A, kk, c, R, rfl, hRC, hb2⟩
        clear KRD q0 zq hidx2
        have hk8 : kk ≤ 8 := by have h1 := hRC.len.2; have h2 := (SI.paths (HSL.out.sr.si HSL.out.fo HSL.out.po)).2; have := HSL.out.fo.wl; omega
        have hslz := blk_below HSL.out.z hb2 (lt_of_block HSL.out.z)
        have HB2 := Lib.hid hb2
        have HRC := Lib.hid hRC
        have HSZ := Lib.hid hslz
        clear hb2 hRC hslz
        rcases List.eq_nil_or_concat g.s.rds with hr | ⟨R0, r, hr⟩
        · obtain rfl : kk = 0 := by rw [← HRC.out.len.2, hr]; rfl
          have HR := Lib.hid hr
          clear hr
          have HSZ2 := Lib.hid HSZ.out
          have HOF2 : Hid (Off (fun x => x = g.Q) wr w2) := Lib.hid (Off.of HB2.out)
          have HTO := Lib.hid (HSL.out.told.keep HB2.out)
          have HTK := Lib.hid HSL.out.k64
          have HTN : Hid (∀ x, ob g.T.A = some x → D1 i x ∨ wr.heap.size ≤ x) := Lib.hid (fun x e => .inl (HSL.out.inn x (.inr (.inr (.inl e)))))
          have ks := search_slot HEU.out.sv HSL.out rfl (HEU.out.sv.out i hk6) HOF2.out g.T g.sm
          unfold askV at ks
          have KS := Lib.hid ks
          clear ks HSZ HB2 HRC
          have q1 := blk_cell HSZ2.out 1
          have q2 := blk_cell HSZ2.out 2
          have q3 := blk_cell HSZ2.out 3
          have q4 := blk_cell HSZ2.out 4
          have q5 := blk_cell HSZ2.out 5
          have q6 := blk_cell HSZ2.out 6
          have q7 := blk_cell HSZ2.out 7
          have q8 := blk_cell HSZ2.out 8
          have q9 := blk_cell HSZ2.out 9
          have zq := lt_of_block HSZ2.out
          simp only [List.getElem?_toArray, List.getElem?_cons_zero, List.getElem?_cons_succ] at q1 q2 q3 q4 q5 q6 q7 q8 q9
          go_wp2_with fail
          refine KS.out.mono ?_
          rintro e w3 ⟨P, b, FF, Y, s, rfl, e1, e2, e3, e4, e5, fo, po, hbl, sr, hb3⟩
          have hz3 := blk_below HSZ2.out hb3 (lt_of_block HSZ2.out)
          have hredo := SL.redo HSL.out HEU.out.sv.size HOF2.out hb3 e1 e2 e3 e4 e5 fo po hbl sr HSZ2.out HTO.out HTK.out HTN.out
          have HE3 := Lib.hid (HEU.out.take hk6 HG.out (g' := ⟨g.Q, P, b, FF, Y, s, g.f, 0, g.AW, g.cW, g.T, g.sm⟩) ⟨rfl, e2, e5, rfl, .inl ⟨HR.out, rfl, rfl⟩⟩ rfl hredo.1 hredo.2)
          have q0 := blk_cell hz3 0
          have f0 := blk_free hz3 0
          have zq := lt_of_block hz3
          simp only [List.getElem?_toArray, List.getElem?_cons_zero, List.getElem?_cons_succ] at q0
          clear hredo hz3 hb3 sr fo po hbl e1 e2 e3 e4 e5 KS HSZ2 HOF2 HTO HTK HTN HEU HSL
          go_wp2
          go_roundw
          case rel => exact ⟨i + 1, _, _, _, by go_num, hk6, HE3⟩
          case measure => simp [intOf]; omega
        · rw [List.concat_eq_append] at hr
          obtain rfl : kk = R0.length + 1 := by rw [← HRC.out.len.2, hr]; simp
          have HR := Lib.hid hr
          obtain ⟨x, S9, _, hxm, hxr, hA9, _, hS9, ⟨c0, c1, c2, c3, c4⟩, _⟩ := HRC.out.at_ (j := R0.length) (Nat.lt_succ_self _)
          rw [hr, List.getElem?_append_right (Nat.le_refl _), Nat.sub_self] at hxr
          subst hA9
          have HTE : Hid (x.rnd = r) := Lib.hid (by simpa using hxr.symm)
          have HTO2 := Lib.hid (HRC.out.ways x hxm)
          have HTK : Hid (x.k ≤ 64) := Lib.hid (by
            have h1 := (HRC.out.ways x hxm).sl.1
            have h2 := HP1.out x.rnd (by rw [← HRC.out.rnd]; exact List.mem_map_of_mem hxm)
            have h3 : x.path.length ≤ 64 := h2
            omega)
          have q4 := blk_cell HSZ.out 4
          have q5 := blk_cell HSZ.out 5
          have q6 := blk_cell HSZ.out 6
          have q7 := blk_cell HSZ.out 7
          have q8 := blk_cell HSZ.out 8
          have q9 := blk_cell HSZ.out 9
          have f4 := blk_free HSZ.out 4
          have f5 := blk_free HSZ.out 5
          have f6 := blk_free HSZ.out 6
          have f7 := blk_free HSZ.out 7
          have f8 := blk_free HSZ.out 8
          have f9 := blk_free HSZ.out 9
          have zq := lt_of_block HSZ.out
          simp only [List.getElem?_toArray, List.getElem?_cons_zero, List.getElem?_cons_succ] at q4 q5 q6 q7 q8 q9
          change w2.cell? ⟨S9, R0.length * 5, none⟩ = _ at c0
          clear hxr hr
          go_upto_region 15 with fail
          have hz2 : ((((((w2.setCell ⟨g.Q, 4, none⟩ (.int .i64 x.num)).setCell ⟨g.Q, 5, none⟩ (.int .i64 x.den)).setCell ⟨g.Q, 6, none⟩ (.slice x.A x.k x.c)).setCell ⟨g.Q, 7, none⟩ (.int .i64 x.cost)).setCell ⟨g.Q, 8, none⟩ (.int .i64 x.done)).setCell ⟨g.Q, 9, none⟩ (.bool true)).heap[g.Q]? = some (.cells #[.pointer (some ⟨g.P, 0, none⟩), .int .i64 g.f, .int .i64 g.F.tt, .slice g.AW g.F.ws.length g.cW, .int .i64 x.num, .int .i64 x.den, .slice x.A x.k x.c, .int .i64 x.cost, .int .i64 x.done, .bool true] 89 (0, 0)) := blk_set (blk_set (blk_set (blk_set (blk_set (blk_set HSZ.out 4 _) 5 _) 6 _) 7 _) 8 _) 9 _
          have hof2 : Off (fun x => x = g.Q) wr ((((((w2.setCell ⟨g.Q, 4, none⟩ (.int .i64 x.num)).setCell ⟨g.Q, 5, none⟩ (.int .i64 x.den)).setCell ⟨g.Q, 6, none⟩ (.slice x.A x.k x.c)).setCell ⟨g.Q, 7, none⟩ (.int .i64 x.cost)).setCell ⟨g.Q, 8, none⟩ (.int .i64 x.done)).setCell ⟨g.Q, 9, none⟩ (.bool true)) := ((((((Off.set_ (D := fun x => x = g.Q) (Off.of HB2.out) (p := ⟨g.Q, 4, none⟩) rfl _).set_ (p := ⟨g.Q, 5, none⟩) rfl _).set_ (p := ⟨g.Q, 6, none⟩) rfl _).set_ (p := ⟨g.Q, 7, none⟩) rfl _).set_ (p := ⟨g.Q, 8, none⟩) rfl _).set_ (p := ⟨g.Q, 9, none⟩) rfl _)
          have hne := HTO2.out.ne_ HSZ.out (by decide)
          have hto : Own ((((((w2.setCell ⟨g.Q, 4, none⟩ (.int .i64 x.num)).setCell ⟨g.Q, 5, none⟩ (.int .i64 x.den)).setCell ⟨g.Q, 6, none⟩ (.slice x.A x.k x.c)).setCell ⟨g.Q, 7, none⟩ (.int .i64 x.cost)).setCell ⟨g.Q, 8, none⟩ (.int .i64 x.done)).setCell ⟨g.Q, 9, none⟩ (.bool true)) b0 3 1 ci (.slice x.A x.k x.c) x.path := ((((((HTO2.out.mono HEU.out.sv.size).setCell hne _).setCell hne _).setCell hne _).setCell hne _).setCell hne _).setCell hne _
          have HTN : Hid (∀ y, ob x.A = some y → D1 i y ∨ wr.heap.size ≤ y) := Lib.hid (fun y e => .inr (HTO2.out.base_ y ((ob_ ..).trans e)).1)
          clear hne c0 c1 c2 c3 c4 q4 q5 q6 q7 q8 q9 f4 f5 f6 f7 f8 f9 zq HSZ HRC HTO2 HB2 hxm
          generalize (((((w2.setCell ⟨g.Q, 4, none⟩ (.int .i64 x.num)).setCell ⟨g.Q, 5, none⟩ (.int .i64 x.den)).setCell ⟨g.Q, 6, none⟩ (.slice x.A x.k x.c)).setCell ⟨g.Q, 7, none⟩ (.int .i64 x.cost)).setCell ⟨g.Q, 8, none⟩ (.int .i64 x.done)).setCell ⟨g.Q, 9, none⟩ (.bool true) = w2b at hz2 hof2 hto ⊢
          have HSZ2 := Lib.hid hz2
          have HOF2 := Lib.hid hof2
          have HTO := Lib.hid hto
          have ks := search_slot HEU.out.sv HSL.out rfl (HEU.out.sv.out i hk6) HOF2.out x true
          unfold askV at ks
          have KS := Lib.hid ks
          clear ks hz2 hof2 hto
          have q1 := blk_cell HSZ2.out 1
          have q2 := blk_cell HSZ2.out 2
          have q3 := blk_cell HSZ2.out 3
          have q4 := blk_cell HSZ2.out 4
          have q5 := blk_cell HSZ2.out 5
          have q6 := blk_cell HSZ2.out 6
          have q7 := blk_cell HSZ2.out 7
          have q8 := blk_cell HSZ2.out 8
          have q9 := blk_cell HSZ2.out 9
          have zq := lt_of_block HSZ2.out
          simp only [List.getElem?_toArray, List.getElem?_cons_zero, List.getElem?_cons_succ] at q1 q2 q3 q4 q5 q6 q7 q8 q9
          go_wp2_with fail
          refine KS.out.mono ?_
          rintro e w3 ⟨P, b, FF, Y, s, rfl, e1, e2, e3, e4, e5, fo, po, hbl, sr, hb3⟩
          have hz3 := blk_below HSZ2.out hb3 (lt_of_block HSZ2.out)
          have hredo := SL.redo HSL.out HEU.out.sv.size HOF2.out hb3 e1 e2 e3 e4 e5 fo po hbl sr HSZ2.out HTO.out HTK.out HTN.out
          have HE3 := Lib.hid (HEU.out.take hk6 HG.out (g' := ⟨g.Q, P, b, FF, Y, s, g.f, 0, g.AW, g.cW, x, true⟩) ⟨rfl, e2, e5, rfl, .inr ⟨R0, r, HR.out, HTE.out, rfl⟩⟩ rfl hredo.1 hredo.2)
          have q0 := blk_cell hz3 0
          have f0 := blk_free hz3 0
          have zq := lt_of_block hz3
          simp only [List.getElem?_toArray, List.getElem?_cons_zero, List.getElem?_cons_succ] at q0
          clear hredo hz3 hb3 sr fo po hbl e1 e2 e3 e4 e5 KS HSZ2 HOF2 HTO HTK HTN HEU HSL
          go_wp2
          go_roundw
          case rel => exact ⟨i + 1, _, _, _, by go_num, hk6, HE3⟩
          case measure => simp [intOf]; omega
    · obtain rfl : i = 6 := by omega
      have HFIN := Lib.hid HEU.out.end_
      clear HEU
      go_wp2
      go_ret
      exact HFIN.out

end
end Go.Proofs.Ytpoolpaagbeokaa.Serve

namespace Go.Proofs.Ytpoolpaagbeokaa.Serve
open Go.RowKit Go.Proofs.Ytpoolpaagbeokaa NetLaw BellLaw StarLaw AraLaw Go.Proofs.Ytpoolpaagbeokaa.Net Go.Proofs.Ytpoolpaagbeokaa.Std Go.Proofs.Ytpoolpaagbeokaa.Flow Go.Proofs.Ytpoolpaagbeokaa.Ara Go.Proofs.Ytpoolpaagbeokaa.GroundLaw
open Go.Proofs.Ytpoolpaagbeokaa.GridLaw hiding E
open Go.Proofs.Ytpoolpaagbeokaa.ServeLaw
set_option linter.unusedSimpArgs false
set_option linter.unusedVariables false
theorem sl_pair {w : World} {B : Nat} {A : Option Addr} {l : List (Int × Int)} (h : Sl w B 2 cp A l) {k : Nat} (hk : k < l.length) :
    ∃ b off f t, A = some ⟨b, off, none⟩ ∧ b < B ∧ l[k] = (f, t) ∧ w.cell? ⟨b, off + k * 2, none⟩ = some (.int .i64 f) ∧ w.cell? ⟨b, off + k * 2 + 1, none⟩ = some (.int .i64 t) := by
  obtain ⟨b, off, hA, hlt, hc⟩ := h (by omega)
  exact ⟨b, off, _, _, hA, hlt, rfl, hc k hk 0 (by omega), hc k hk 1 (by omega)⟩
/-- a request of weight one on the small ground -/
theorem ask_s {b0 : Nat} {w : World} {Z : Nat} {A : Option Addr} {c : Nat} (h : SV b0 w Z 2 1 A c [1, 2] 0 (fun _ => none) (fun _ _ => False)) (S : Nat) (hs : Sl w w.heap.size 2 cp (some ⟨S, 0, none⟩) [(1, 1)]) :
    Calls Try.prog 11 #[.pointer (some ⟨Z, 0, none⟩), .int .i64 0, .int .i64 1, .slice (some ⟨S, 0, none⟩) 1 1] w fun e w' => ∃ g D', e = .returned (.tuple #[.int .i64 0, .int .i64 0]) ∧ SV b0 w' Z 2 1 A c [1, 2] 0 (upd1 (fun _ => none) 0 (some g)) (upd1 (fun _ _ => False) 0 D') ∧ Off (fun x => x = Z) w w' ∧ g.f = 0 ∧ g.F.tt = 1 ∧ g.F.ws = [(1, 1)] ∧ g.k = 0 := by
  have key := ask_yes h 0 1 (some ⟨S, 0, none⟩) 1 [(1, 1)] hs (fun e => by cases e) (by decide) (by decide) (by decide) (by decide) 0 (by decide) (fun _ => rfl) (fun j hj => by omega)
  refine Calls.mono key ?_
  rintro e w' (⟨h6, _⟩ | ⟨_, g, D', e1, e2, e3, e4, e5, e6, e7, _⟩)
  · cases h6
  · exact ⟨g, D', e1, e2, e3, e4, e5, e6, e7⟩
theorem all_s : allM 2 1 [1, 2] 2 = [(0, 1, 15), (1, 0, 15)] := by decide +kernel
def ls : List E := [(0, 1, 15), (1, 0, 15)]
def ts1 : AS := ⟨[0, 15], [-1, 0], [true, false], up (up (up (fun _ => false) 0 true) 0 false) 1 true, fun _ => false, 1, []⟩
def ts2 : AS := told [(1, 1)] ([0, 1], 15) ts1
theorem op_ts1 {v : Int} (h : AraLaw.Op 2 ts1 v) : v = 1 := by
  obtain ⟨⟨h0, h2⟩, h3⟩ := h
  have : v = 0 ∨ v = 1 := by omega
  rcases this with rfl | rfl
  · revert h3; decide
  · rfl
theorem nx_ts1 : NxA 2 (1, 1) [0, 0] ts1 1 := ⟨⟨⟨by decide, by decide⟩, by decide⟩, fun u hu => by rw [op_ts1 hu]; exact lt3_self _⟩
theorem exp_ts : expand ls [0, 0] 0 t0 = ts1 := rfl
theorem best_ts : BestA 2 1 ls ts1 ([0, 1], 15) := .inr ⟨by decide, [1, 0], Ch.more (by decide) (Ch.last rfl), rfl⟩
theorem run_s0 : Rn 2 1 ls [0, 0] [(1, 1)] 0 0 t0 := Rn.start (by
  show Stl 2 1 ls [0, 0] [(1, 1)] (init 2 [0, 0] 0) t0
  rw [init_t]
  exact Stl.wait (by decide) ⟨0, nx_t0, .inl rfl⟩)
theorem run_s2 : Rn 2 1 ls [0, 0] [(1, 1)] 0 1 ts2 := Rn.step run_s0 (by decide) nx_t0 (by
  rw [exp_ts]
  exact Stl.last rfl (.inr ⟨1, nx_ts1, by decide, by decide⟩) best_ts)
/-- on the small ground a request takes one step -/
theorem ov_s {k : Nat} : Ov 2 1 (allM 2 1 [1, 2] 2) [(1, 1)] 0 k ↔ k = 1 := by
  have hz : zs 2 = [0, 0] := rfl
  unfold Ov
  rw [all_s, hz]
  constructor
  · rintro ⟨s, h1, h2⟩
    exact (h1.one run_s2 h2 rfl).1
  · rintro rfl
    exact ⟨ts2, run_s2, rfl⟩
end Go.Proofs.Ytpoolpaagbeokaa.Serve

namespace Go.Proofs.Ytpoolpaagbeokaa.Serve
open Go.RowKit Go.Proofs.Ytpoolpaagbeokaa NetLaw BellLaw StarLaw AraLaw Go.Proofs.Ytpoolpaagbeokaa.Net Go.Proofs.Ytpoolpaagbeokaa.Std Go.Proofs.Ytpoolpaagbeokaa.Flow Go.Proofs.Ytpoolpaagbeokaa.Ara Go.Proofs.Ytpoolpaagbeokaa.GroundLaw
open Go.Proofs.Ytpoolpaagbeokaa.GridLaw hiding E
open Go.Proofs.Ytpoolpaagbeokaa.ServeLaw
set_option linter.unusedSimpArgs false
set_option linter.unusedVariables false
section
variable {b0 : Nat} {w w' : World} {Z : Nat} {W H : Int} {AC : Option Addr} {cC : Nat} {l : List Int} {turn : Nat} {σ : Nat → Option Slt} {D : Nat → Nat → Prop}
theorem SV.loE (h : SV b0 w Z W H AC cC l turn σ D) (ho : Off (fun g => g = Z ∨ ob AC = some g ∨ DS D g) w w') : Below b0 w w' :=
  ho.below h.size (fun g hg => by
    rcases hg with e | e | ⟨i, hi, hd⟩
    · rw [e]; exact h.zl
    · exact (h.cells.base_ g ((ob_ ..).trans e)).1
    · exact (h.dom i hi g hd).1)
theorem edit_any (h : SV b0 w Z W H AC cC l turn σ D) (x y : Int) (y0 : 0 ≤ y) (y9 : y ≤ 9) {g : Slt} (hg : σ 0 = some g) :
    Calls Try.prog 23 #[.pointer (some ⟨Z, 0, none⟩), .int .i64 x, .int .i64 y] w fun e w' => ∃ (r : Int) (l' : List Int) (t' : Nat) (σ' : Nat → Option Slt) (D' : Nat → Nat → Prop), e = .returned (.int .i64 r) ∧ SV b0 w' Z W H AC cC l' t' σ' D' ∧ l'.length = l.length ∧ (∃ g', σ' 0 = some g' ∧ g'.f = g.f ∧ g'.F.tt = g.F.tt) ∧ Off (fun g => g = Z ∨ ob AC = some g ∨ DS D g) w w' := by
  by_cases hx : 0 ≤ x ∧ x < l.length
  · obtain ⟨k, rfl⟩ := Int.eq_ofNat_of_zero_le hx.1
    have hk : k < l.length := by omega
    by_cases he : l.getD k 0 = y
    · refine (edit_same h k hk y y0 y9 he).mono ?_
      rintro e w' ⟨rfl, hb⟩
      exact ⟨0, l, turn, σ, D, rfl, h.keep hb, rfl, ⟨g, hg, rfl, rfl⟩, Off.of hb⟩
    · refine (edit_yes h k hk y y0 y9 he).mono ?_
      rintro e w' ⟨rfl, σ', D', sv, ed, of, _⟩
      refine ⟨0, _, turn, σ', D', rfl, sv, List.length_set, ?_, of⟩
      rcases ed 0 with ⟨e1, _⟩ | ⟨g1, g', e1, e2, h1, _⟩
      · rw [hg] at e1; cases e1
      · rw [hg] at e1
        injection e1 with e1
        subst e1
        have h2 := h1 (by decide)
        exact ⟨g', e2, h2.f, h2.t⟩
  · refine (edit_bad h x y (by omega)).mono ?_
    rintro e w' ⟨rfl, hb⟩
    exact ⟨_, l, turn, σ, D, rfl, h.keep hb, rfl, ⟨g, hg, rfl, rfl⟩, Off.of hb⟩
end
end Go.Proofs.Ytpoolpaagbeokaa.Serve

namespace Go.Proofs.Ytpoolpaagbeokaa.Serve
open Go.RowKit Go.Proofs.Ytpoolpaagbeokaa NetLaw BellLaw StarLaw AraLaw Go.Proofs.Ytpoolpaagbeokaa.Net Go.Proofs.Ytpoolpaagbeokaa.Std Go.Proofs.Ytpoolpaagbeokaa.Flow Go.Proofs.Ytpoolpaagbeokaa.Ara Go.Proofs.Ytpoolpaagbeokaa.GroundLaw
open Go.Proofs.Ytpoolpaagbeokaa.GridLaw hiding E
open Go.Proofs.Ytpoolpaagbeokaa.ServeLaw
set_option linter.unusedSimpArgs false
set_option linter.unusedVariables false
/-- requests that were taken, in their order -/
structure Reqs (σ : Nat → Option Slt) (k : Nat) (R : List E) : Prop where
  len : R.length = k
  som : ∀ m, m < k → ∃ g, σ m = some g ∧ R[m]? = some ((m : Int), (g.f : Int), (g.F.tt : Int))
  non : ∀ m, k ≤ m → σ m = none
theorem Reqs.start : Reqs (fun _ => none) 0 [] := ⟨rfl, fun m hm => by omega, fun _ _ => rfl⟩
theorem Reqs.add {σ : Nat → Option Slt} {k : Nat} {R : List E} (h : Reqs σ k R) (g : Slt) : Reqs (upd1 σ k (some g)) (k + 1) (R ++ [((k : Int), (g.f : Int), (g.F.tt : Int))]) := by
  refine ⟨by rw [List.length_append, h.len]; rfl, fun m hm => ?_, fun m hm => by rw [upd1_ne _ _ (by omega)]; exact h.non m (by omega)⟩
  by_cases e : m = k
  · subst e
    refine ⟨g, upd1_eq .., ?_⟩
    rw [List.getElem?_append_right (by rw [h.len]; exact Nat.le_refl _), h.len, Nat.sub_self]
    rfl
  · obtain ⟨g0, h1, h2⟩ := h.som m (by omega)
    refine ⟨g0, by rw [upd1_ne _ _ e]; exact h1, ?_⟩
    rw [List.getElem?_append_left (by rw [h.len]; omega)]
    exact h2
theorem Reqs.went {σ σ' : Nat → Option Slt} {k : Nat} {R : List E} (h : Reqs σ k R) (hw : Went σ σ') : Reqs σ' k R :=
  ⟨h.len, fun m hm => by
    obtain ⟨g, h1, h2⟩ := h.som m hm
    obtain ⟨Y, s, k', e⟩ := hw.get h1
    exact ⟨_, e, h2⟩, fun m hm => hw.none_ (h.non m hm)⟩
/-- on the small ground a frame takes the one step -/
theorem frame_s {g : Slt} (gf : g.f = 0) (gt : g.F.tt = 1) (gw : g.F.ws = [(1, 1)]) (gk : g.k = 0) {u t' : Nat} {c' : Nat → Nat} (hr : Run (Tk 2 (allM 2 1 [1, 2] 2) (upd1 (fun _ => none) 0 (some g))) 0 (cnt (upd1 (fun _ => none) 0 (some g))) u t' c') (hs : u < 9 → Stuck (Tk 2 (allM 2 1 [1, 2] 2) (upd1 (fun _ => none) 0 (some g))) c') : u = 1 := by
  have hT : ∀ i k, Tk 2 (allM 2 1 [1, 2] 2) (upd1 (fun _ => none) 0 (some g)) i k = true ↔ i = 0 ∧ k ≠ 1 := by
    intro i k
    by_cases e : i = 0
    · subst e
      rw [tk_some (upd1_eq ..), gt, gw, gf, ov_s]
      exact ⟨fun h => ⟨rfl, h⟩, fun h => h.2⟩
    · rw [tk_none (by rw [upd1_ne _ _ e])]
      exact ⟨fun h => (nomatch h), fun h => absurd h.1 e⟩
  have h0 : cnt (upd1 (fun _ => none) 0 (some g)) 0 = 0 := by unfold cnt; rw [upd1_eq]; exact gk
  have key : u ≤ 1 ∧ c' 0 = u := by
    clear hs
    induction hr with
    | zero => exact ⟨by decide, h0⟩
    | @step n t1 d c1 hr hf ih =>
      obtain ⟨h1, h2⟩ := ih
      obtain ⟨a1, a2⟩ := (hT _ _).1 hf.yes
      rw [a1] at a2 ⊢
      unfold bump
      rw [if_pos rfl]
      omega
  rcases Nat.eq_zero_or_pos u with e | e
  · have h1 := hs (by omega) 0 (by decide)
    have h2 := (hT 0 (c' 0)).2 ⟨rfl, by omega⟩
    rw [h1] at h2
    cases h2
  · omega
section
variable {b0 : Nat} {w w' : World} {Z : Nat} {W H : Int} {AC : Option Addr} {cC : Nat} {l : List Int} {turn : Nat} {σ : Nat → Option Slt} {D : Nat → Nat → Prop}
theorem SV.off (h : SV b0 w Z W H AC cC l turn σ D) {D2 : Nat → Prop} (ho : Off D2 w w') (hZ : ¬ D2 Z) (hC : ∀ x, ob AC = some x → ¬ D2 x) (hd : ∀ i, i < 6 → ∀ x, D i x → ¬ D2 x) : SV b0 w' Z W H AC cC l turn σ D :=
  ⟨blk_off h.z ho hZ, h.zl, own_off h.cells ho hC, h.good, h.tl, fun i hi g e => (h.slot i hi g e).off ho (hd i hi), h.sepD, h.out, fun i hi x hx => ⟨(h.dom i hi x hx).1, Nat.lt_of_lt_of_le (h.dom i hi x hx).2 ho.size⟩⟩
theorem Off.grown {row : Option Nat} (h : w.grownBy w' row) : Off (fun x => row = some x) w w' := ⟨h.os, h.tape, h.output, h.size, fun g hg hn => h.block g hg (fun e => hn e.symm)⟩
theorem SV.Zlt (h : SV b0 w Z W H AC cC l turn σ D) : Z < w.heap.size := h.zs.2.2.2.2.2
/-- a search that is over took no more than 512 steps -/
theorem SL.k512 {n : Nat} {m : List E} {Dk : Nat → Prop} {g : Slt} (h : SL b0 w n m Dk g) (ho : g.s.rds.length = g.F.ws.length) : g.k ≤ 512 := by
  obtain ⟨e1, e2, e3⟩ := h.net
  obtain ⟨⟨w1, w8⟩, _⟩ := wcode_ok h.wc
  have hld := h.sr.run.lastD w1 ho
  obtain ⟨V, _, _, hRI⟩ := h.sr.si h.fo h.po
  have hn : g.F.n ≤ 64 := by have := h.fo.gd.hi; omega
  have h1 := hRI.ld
  have h2 : g.s.rds.length ≤ 8 := by omega
  have h4 : (g.F.n : Int) * g.s.rds.length ≤ 64 * 8 := Int.mul_le_mul (by omega) (by omega) (by omega) (by omega)
  omega
/-- where none has a step to take, all are over -/
theorem SV.stuck_over {σ0 : Nat → Option Slt} (h : SV b0 w Z W H AC cC l turn σ D) (wt : Went σ0 σ) (hs : Stuck (Tk l.length (allM W H l l.length) σ0) (cnt σ)) : ∀ i, i < 6 → ∀ g, σ i = some g → g.s.rds.length = g.F.ws.length := fun i hi g hg => by
  have h1 := hs i hi
  rw [← wt.tk] at h1
  have h2 := h.tk hi hg
  rw [h1] at h2
  by_cases e : g.s.rds.length = g.F.ws.length
  · exact e
  · have := h2.2 e; cases this
/-- all requests over: no more than 3072 steps in all -/
theorem SV.sum_over (h : SV b0 w Z W H AC cC l turn σ D) (ho : ∀ i, i < 6 → ∀ g, σ i = some g → g.s.rds.length = g.F.ws.length) {T : Sch} {t0 n : Nat} {c : Nat → Nat} (hr : Run T t0 c n turn (cnt σ)) : n ≤ 3072 := hr.le (m := 512) (fun i hi => by
  unfold cnt
  cases hg : σ i with
  | none => exact Nat.zero_le _
  | some g => exact (h.slot i hi g hg).k512 (ho i hi g hg))
/-- a slot that is over was told a round -/
theorem SL.last_ {n : Nat} {m : List E} {Dk : Nat → Prop} {g : Slt} (h : SL b0 w n m Dk g) (ho : g.s.rds.length = g.F.ws.length) : ∃ R0 r, g.s.rds = R0 ++ [r] := by
  obtain ⟨⟨w1, _⟩, _⟩ := wcode_ok h.wc
  rcases List.eq_nil_or_concat g.s.rds with hr | ⟨R0, r, hr⟩
  · rw [hr] at ho; simp at ho; omega
  · exact ⟨R0, r, by rw [hr, List.concat_eq_append]⟩
end
end Go.Proofs.Ytpoolpaagbeokaa.Serve

namespace Go.Proofs.Ytpoolpaagbeokaa.Serve
open Go.RowKit Go.Proofs.Ytpoolpaagbeokaa NetLaw BellLaw StarLaw AraLaw Go.Proofs.Ytpoolpaagbeokaa.Net Go.Proofs.Ytpoolpaagbeokaa.Std Go.Proofs.Ytpoolpaagbeokaa.Flow Go.Proofs.Ytpoolpaagbeokaa.Ara Go.Proofs.Ytpoolpaagbeokaa.GroundLaw
open Go.Proofs.Ytpoolpaagbeokaa.GridLaw hiding E
open Go.Proofs.Ytpoolpaagbeokaa.ServeLaw
set_option linter.unusedSimpArgs false
set_option linter.unusedVariables false
section
variable {b0 : Nat} {w w' : World} {Z : Nat} {W H : Int} {AC : Option Addr} {cC : Nat} {l : List Int} {turn : Nat} {σ : Nat → Option Slt} {D : Nat → Nat → Prop}
set_option maxRecDepth 100000 in
set_option maxHeartbeats 8000000 in
/-- a request that was told something on other ground -/
theorem poll_stale (h : SV b0 w Z W H AC cC l turn σ D) {i : Nat} (hi : i < 6) {g : Slt} (hg : σ i = some g) (hr : g.s.rds = []) (hm : g.sm = true) :
    Calls Try.prog 14 #[.pointer (some ⟨Z, 0, none⟩), .int .i64 i] w fun e w' => AnsSays 3 g.T.rnd w e w' := by
  have hw0 : Below w.heap.size w (w.alloc (.cells #[.int .i64 0, .int .i64 0, .int .i64 0, .slice none 0 0, .int .i64 0, .int .i64 0] 45)) := (Below.refl _ _).alloc (Nat.le_refl _) _
  have hbox := heap_alloc_new w (.cells #[.int .i64 0, .int .i64 0, .int .i64 0, .slice none 0 0, .int .i64 0, .int .i64 0] 45)
  have h1 := h.keep hw0
  have SV0 := Lib.hid h1
  have HW0 := Lib.hid hw0
  have HB := Lib.hid hbox
  obtain ⟨a1, _⟩ := h.at_ hi
  rw [hg] at a1
  change w.cell? _ = some (.pointer (some ⟨g.Q, 0, none⟩)) at a1
  obtain ⟨_, _, _, _, _, zp⟩ := h.zs
  have zi : (i : Int) < 6 := by omega
  have hsl := h.slot i hi g hg
  have q0 := blk_cell hsl.z 0
  have zq := lt_of_block hsl.z
  simp only [List.getElem?_toArray, List.getElem?_cons_zero, List.getElem?_cons_succ] at q0
  obtain ⟨hp1, hp2⟩ := SI.paths (hsl.sr.si hsl.fo hsl.po)
  have krd := rounds_any ((h1.slot i hi g hg).sr.sm.am) hp1 (by have := hsl.fo.wl; omega)
  have KRD := Lib.hid krd
  have HG := Lib.hid hg
  have HR := Lib.hid hr
  have HRW := Lib.hid hp2
  have HM := Lib.hid hm
  clear hm h h1 hg hsl krd hr hp1 hp2 hw0 hbox
  go_enter Try.func14, Try.ntmps14
  go_wp2_with fail
  refine KRD.out.mono ?_
  rintro e w2 ⟨A, k, c, R, rfl, hRC, hb2⟩
  obtain ⟨hl1, hl2⟩ := hRC.len
  obtain rfl : k = 0 := by rw [← hl2, HR.out]; rfl
  have SV2 := SV0.out.keep hb2
  have hsl := SV2.slot i hi g HG.out
  have q9 := blk_cell hsl.z 9
  have q4 := blk_cell hsl.z 4
  have q5 := blk_cell hsl.z 5
  have q6 := blk_cell hsl.z 6
  have q7 := blk_cell hsl.z 7
  have q8 := blk_cell hsl.z 8
  have TOLD := Lib.hid hsl.told
  have HK64 := Lib.hid hsl.k64
  have zq2 := lt_of_block hsl.z
  simp only [List.getElem?_toArray, List.getElem?_cons_zero, List.getElem?_cons_succ, HM.out] at q9 q4 q5 q6 q7 q8
  have HW2 := Lib.hid (HW0.out.trans (hb2.mono HW0.out.size))
  have hB := blk_below HB.out hb2 (lt_of_block HB.out)
  have f0 := blk_free hB 0
  have f1 := blk_free hB 1
  have f2 := blk_free hB 2
  have f3 := blk_free hB 3
  have f4 := blk_free hB 4
  have f5 := blk_free hB 5
  have m0 := blk_cell hB 0
  have m1 := blk_cell hB 1
  have m2 := blk_cell hB 2
  have m3 := blk_cell hB 3
  have m4 := blk_cell hB 4
  have m5 := blk_cell hB 5
  have zR := lt_of_block hB
  simp only [List.getElem?_toArray, List.getElem?_cons_zero, List.getElem?_cons_succ] at m0 m1 m2 m3 m4 m5
  have HBR := Lib.hid hB
  clear SV2 hsl hB hRC hb2 SV0 HW0 a1 q0 zq zp KRD hl1 hl2
  go_upto_region 12 with fail
  obtain ⟨i0, hi0, hz0, hz1, hz2⟩ := info_parts infoIntO
  have h23 : Below w2.heap.size w2 (w2.alloc (.cells #[.int .i64 g.T.num, .int .i64 g.T.den, .slice g.T.A g.T.k g.T.c, .int .i64 g.T.cost, .int .i64 g.T.done] 43)) := (Below.refl _ _).alloc (Nat.le_refl _) _
  have hbn := heap_alloc_new w2 (.cells #[.int .i64 g.T.num, .int .i64 g.T.den, .slice g.T.A g.T.k g.T.c, .int .i64 g.T.cost, .int .i64 g.T.done] 43)
  have HT3 := TOLD.out.keep h23
  have hbR3 := blk_alloc HBR.out (.cells #[.int .i64 g.T.num, .int .i64 g.T.den, .slice g.T.A g.T.k g.T.c, .int .i64 g.T.cost, .int .i64 g.T.done] 43)
  have hXR : w.heap.size ≠ w2.heap.size := Nat.ne_of_lt (lt_of_block HBR.out)
  have HW3 := Lib.hid (HW2.out.trans (h23.mono HW2.out.size))
  have hb0k := HG.out
  have hkl := TOLD.out.sl.1
  have hfo : g.T.A = none → g.T.path.length = 0 ∧ g.T.c = 0 := by
    obtain ⟨A9, c9, e9, _, h9⟩ := TOLD.out.form
    injection e9 with e1 e2 e3
    subst e1 e3
    exact h9
  generalize w2.alloc (.cells #[.int .i64 g.T.num, .int .i64 g.T.den, .slice g.T.A g.T.k g.T.c, .int .i64 g.T.cost, .int .i64 g.T.done] 43) = w3 at hbn HT3 HW3 hbR3 ⊢
  have hle3 := HW3.out.size
  generalize hX : w2.heap.size = X at hbn hXR ⊢
  have x1 := blk_cell hbn 2
  have zX := lt_of_block hbn
  have hk6 := HK64.out
  simp only [List.getElem?_toArray, List.getElem?_cons_zero, List.getElem?_cons_succ] at x1
  have hsl3 := HT3.sl.2
  rw [hkl] at x1
  clear q4 q5 q6 q7 q8 q9 f0 f1 f2 f3 f4 f5 m0 m1 m2 m3 m4 m5 zR
  have HX1 := Lib.hid hX
  clear hX
  go_upto_region 13 with (at_builtin; go_must (refine wpList_pushAll _ rfl (.const (.slice none 0 0)) (.tmp 66) _ rfl w3.heap.size 3 i0 (.int .i64 0) 1 8 ci Try.underlying22 hi0 hz0 hz1 hz2 rfl (by decide) _ [] 0 rfl rfl Own.nil_ w3.heap.size g.T.A g.T.path.length g.T.c g.T.path rfl rfl hfo (hsl3.more (by omega)) one_ci (by omega) (by omega) (Nat.le_refl _) ?_; intro A5 c5 w5 hown5 hgrow5 hat5; have hb35 : Below w3.heap.size w3 w5 := (Below.refl _ _).grown hgrow5 (Nat.le_refl _) (fun k hk => by cases hk); have hbn5 := blk_below hbn hb35 zX; have y2 := blk_cell hbn5 2; have yf := blk_free hbn5 2; have zX5 := lt_of_block hbn5))
  simp only [Nat.zero_add, List.nil_append] at hown5
  have hbR5 := blk_below hbR3 hb35 (lt_of_block hbR3)
  have hbn6 := blk_set hbn5 2 (.slice A5 g.T.path.length c5)
  have hbR6 := blk_far hbR5 (p := ⟨X, 2, none⟩) hXR (.slice A5 g.T.path.length c5)
  have own6 := hown5.setCell (p := ⟨X, 2, none⟩) (hown5.ne_ hbn5 (by decide)) (.slice A5 g.T.path.length c5)
  have hb36 : w.heap.size ≤ w3.heap.size := hle3
  have hXw : w.heap.size ≤ X := by rw [← HX1.out]; exact HW2.out.size
  have HW6 := Lib.hid ((HW3.out.trans (hb35.mono HW3.out.size)).setCell (p := ⟨X, 2, none⟩) hXw (.slice A5 g.T.path.length c5))
  clear hbR5 hbR3 hbn5 hbn y2 yf zX5 hown5 hgrow5 hat5 hb35 hsl3 HT3 HW3 x1 zX
  generalize w5.setCell ⟨X, 2, none⟩ (.slice A5 g.T.path.length c5) = w6 at hbn6 hbR6 own6 HW6 ⊢
  have n0 := blk_cell hbn6 0
  have n1 := blk_cell hbn6 1
  have n2 := blk_cell hbn6 2
  have n3 := blk_cell hbn6 3
  have n4 := blk_cell hbn6 4
  have zX6 := lt_of_block hbn6
  have f0 := blk_free hbR6 0
  have f1 := blk_free hbR6 1
  have f2 := blk_free hbR6 2
  have f3 := blk_free hbR6 3
  have f4 := blk_free hbR6 4
  have f5 := blk_free hbR6 5
  have m0 := blk_cell hbR6 0
  have m1 := blk_cell hbR6 1
  have m2 := blk_cell hbR6 2
  have m3 := blk_cell hbR6 3
  have m4 := blk_cell hbR6 4
  have m5 := blk_cell hbR6 5
  have zR := lt_of_block hbR6
  simp only [List.getElem?_toArray, List.getElem?_cons_zero, List.getElem?_cons_succ, List.setIfInBounds_toArray, List.set_cons_zero, List.set_cons_succ] at n0 n1 n2 n3 n4 m0 m1 m2 m3 m4 m5
  have ne1 := own6.ne_ hbR6 (by decide)
  have OWN6 := Lib.hid (own6.mono hb36)
  have NE1 := Lib.hid ne1
  clear hbn6 hbR6 own6 ne1 HBR
  go_wp2
  refine bodyPost_ret (v := .tuple #[.agg #[.int .i64 3, .int .i64 g.T.num, .int .i64 g.T.den, .slice A5 g.T.path.length c5, .int .i64 g.T.cost, .int .i64 g.T.done], .int .i64 0]) (by simp [results, Try.results14, go_sem, m0, m1, m2, m3, m4, m5, f0, f1, f2, f3, f4, f5, n0, n1, n2, n3, n4, zR, zX6]) rfl ?_
  refine ⟨A5, c5, rfl, ?_, ?_⟩
  · exact (((((OWN6.out.setCell NE1.out _).setCell NE1.out _).setCell NE1.out _).setCell NE1.out _).setCell NE1.out _).setCell NE1.out _
  · exact (((((HW6.out.setCell (by dsimp only; omega) _).setCell (by dsimp only; omega) _).setCell (by dsimp only; omega) _).setCell (by dsimp only; omega) _).setCell (by dsimp only; omega) _).setCell (by dsimp only; omega) _
end
end Go.Proofs.Ytpoolpaagbeokaa.Serve

namespace Go.Proofs.Ytpoolpaagbeokaa.Serve
open Go.RowKit Go.Proofs.Ytpoolpaagbeokaa NetLaw BellLaw StarLaw AraLaw Go.Proofs.Ytpoolpaagbeokaa.Net Go.Proofs.Ytpoolpaagbeokaa.Std Go.Proofs.Ytpoolpaagbeokaa.Flow Go.Proofs.Ytpoolpaagbeokaa.Ara Go.Proofs.Ytpoolpaagbeokaa.GroundLaw
open Go.Proofs.Ytpoolpaagbeokaa.GridLaw hiding E
open Go.Proofs.Ytpoolpaagbeokaa.ServeLaw
set_option linter.unusedSimpArgs false
set_option linter.unusedVariables false
/-- a service's blocks -/
def SB (Z : Nat) (AC : Option Addr) (D : Nat → Nat → Prop) : Nat → Prop := fun x => x = Z ∨ ob AC = some x ∨ DS D x
section
variable {b0 : Nat} {w w' : World} {Z : Nat} {W H : Int} {AC : Option Addr} {cC : Nat} {l : List Int} {turn : Nat} {σ : Nat → Option Slt} {D : Nat → Nat → Prop}
theorem SV.sb (h : SV b0 w Z W H AC cC l turn σ D) {x : Nat} (hx : SB Z AC D x) : b0 ≤ x ∧ x < w.heap.size := by
  rcases hx with e | e | ⟨i, hi, hd⟩
  · rw [e]; exact ⟨h.zl, h.Zlt⟩
  · exact h.cells.base_ x ((ob_ ..).trans e)
  · exact h.dom i hi x hd
end
/-- two services on one ground -/
structure Duo (b b' : Nat) (w : World) (W H : Int) (l : List Int) (Z : Nat) (A : Option Addr) (c t : Nat) (σ : Nat → Option Slt) (D : Nat → Nat → Prop) (Z' : Nat) (A' : Option Addr) (c' t' : Nat) (σ' : Nat → Option Slt) (D' : Nat → Nat → Prop) : Prop where
  one : SV b w Z W H A c l t σ D
  two : SV b' w Z' W H A' c' l t' σ' D'
  ap : ∀ x, SB Z A D x → ¬ SB Z' A' D' x
section
variable {b b' : Nat} {w w1 : World} {W H : Int} {l : List Int} {Z : Nat} {A : Option Addr} {c t : Nat} {σ : Nat → Option Slt} {D : Nat → Nat → Prop} {Z' : Nat} {A' : Option Addr} {c' t' : Nat} {σ' : Nat → Option Slt} {D' : Nat → Nat → Prop}
theorem Duo.swap (h : Duo b b' w W H l Z A c t σ D Z' A' c' t' σ' D') : Duo b' b w W H l Z' A' c' t' σ' D' Z A c t σ D := ⟨h.two, h.one, fun x hx hx' => h.ap x hx' hx⟩
theorem Duo.keep (h : Duo b b' w W H l Z A c t σ D Z' A' c' t' σ' D') (hb : Below w.heap.size w w1) : Duo b b' w1 W H l Z A c t σ D Z' A' c' t' σ' D' := ⟨h.one.keep hb, h.two.keep hb, h.ap⟩
/-- the one goes on -/
theorem Duo.on (h : Duo b b' w W H l Z A c t σ D Z' A' c' t' σ' D') {t1 : Nat} {σ1 : Nat → Option Slt} {D1 : Nat → Nat → Prop} (h1 : SV b w1 Z W H A c l t1 σ1 D1) (ho : Off (SB Z A D) w w1) (hn : ∀ x, DS D1 x → DS D x ∨ w.heap.size ≤ x) : Duo b b' w1 W H l Z A c t1 σ1 D1 Z' A' c' t' σ' D' :=
  ⟨h1, h.two.off ho (fun hx => h.ap _ hx (.inl rfl)) (fun x e hx => h.ap x hx (.inr (.inl e))) (fun i hi x hd hx => h.ap x hx (.inr (.inr ⟨i, hi, hd⟩))), fun x hx hx' => by
    have hlt := (h.two.sb hx').2
    rcases hx with e | e | hd
    · exact h.ap x (.inl e) hx'
    · exact h.ap x (.inr (.inl e)) hx'
    · rcases hn x hd with e | e
      · exact h.ap x (.inr (.inr e)) hx'
      · omega⟩
end
theorem ds_upd {D : Nat → Nat → Prop} {k : Nat} {D' : Nat → Prop} {m : Nat} (hd : ∀ x, D' x → m ≤ x) : ∀ x, DS (upd1 D k D') x → DS D x ∨ m ≤ x := by
  rintro x ⟨i, hi, h⟩
  by_cases e : i = k
  · subst e; rw [upd1_eq] at h; exact .inr (hd x h)
  · rw [upd1_ne _ _ e] at h; exact .inl ⟨i, hi, h⟩
/-- the same requests, none begun -/
structure Lk (σ σ' : Nat → Option Slt) (k : Nat) : Prop where
  som : ∀ i, i < k → ∃ g g', σ i = some g ∧ σ' i = some g' ∧ g'.f = g.f ∧ g'.F.tt = g.F.tt ∧ g'.F.ws = g.F.ws ∧ g.k = 0 ∧ g'.k = 0 ∧ g.sm = false ∧ g'.sm = false
  non : ∀ i, k ≤ i → σ i = none ∧ σ' i = none
theorem Lk.start : Lk (fun _ => none) (fun _ => none) 0 := ⟨fun i hi => by omega, fun _ _ => ⟨rfl, rfl⟩⟩
theorem Lk.add {σ σ' : Nat → Option Slt} {k : Nat} (h : Lk σ σ' k) {g g' : Slt} (h1 : g'.f = g.f) (h2 : g'.F.tt = g.F.tt) (h3 : g'.F.ws = g.F.ws) (h4 : g.k = 0) (h5 : g'.k = 0) (h6 : g.sm = false) (h7 : g'.sm = false) : Lk (upd1 σ k (some g)) (upd1 σ' k (some g')) (k + 1) := by
  refine ⟨fun i hi => ?_, fun i hi => ?_⟩
  · by_cases e : i = k
    · subst e; exact ⟨g, g', upd1_eq .., upd1_eq .., h1, h2, h3, h4, h5, h6, h7⟩
    · rw [upd1_ne _ _ e, upd1_ne _ _ e]; exact h.som i (by omega)
  · rw [upd1_ne _ _ (by omega), upd1_ne _ _ (by omega)]; exact h.non i (by omega)
theorem Lk.cnt_ {σ σ' : Nat → Option Slt} {k : Nat} (h : Lk σ σ' k) : cnt σ' = cnt σ := by
  funext i
  unfold cnt
  rcases Nat.lt_or_ge i k with hi | hi
  · obtain ⟨g, g', e, e', _, _, _, k1, k2, _⟩ := h.som i hi
    rw [e, e']
    exact k2.trans k1.symm
  · obtain ⟨e, e'⟩ := h.non i hi
    rw [e, e']
theorem Lk.tk_ {σ σ' : Nat → Option Slt} {k : Nat} (h : Lk σ σ' k) (n : Nat) (m : List E) : Tk n m σ' = Tk n m σ := by
  funext i j
  rcases Nat.lt_or_ge i k with hi | hi
  · obtain ⟨g, g', e, e', h1, h2, h3, _⟩ := h.som i hi
    have a := tk_some (n := n) (l := m) (k := j) e
    have a' := tk_some (n := n) (l := m) (k := j) e'
    rw [h1, h2, h3] at a'
    exact Bool.eq_iff_iff.2 (a'.trans a.symm)
  · obtain ⟨e, e'⟩ := h.non i hi
    rw [tk_none e, tk_none e']
/-- behind as many steps each request stands where its like does -/
theorem same_state {b b' : Nat} {w w' : World} {W H : Int} {l : List Int} {Z : Nat} {A : Option Addr} {c t : Nat} {σ σ1 : Nat → Option Slt} {D : Nat → Nat → Prop} {Z' : Nat} {A' : Option Addr} {c' t' : Nat} {σ' σ1' : Nat → Option Slt} {D' : Nat → Nat → Prop} {k : Nat} (h : Lk σ σ' k) (s : SV b w Z W H A c l t σ1 D) (s' : SV b' w' Z' W H A' c' l t' σ1' D') (hw : Went σ σ1) (hw' : Went σ' σ1') (hc : cnt σ1 = cnt σ1') {i : Nat} (hi : i < 6) :
    (σ1 i = none ∧ σ1' i = none) ∨ ∃ g g', σ1 i = some g ∧ σ1' i = some g' ∧ g'.s = g.s ∧ g'.F.ws.length = g.F.ws.length ∧ g.sm = false ∧ g'.sm = false := by
  rcases Nat.lt_or_ge i k with hk | hk
  · obtain ⟨g, g', e, e', h1, h2, h3, _, _, h6, h7⟩ := h.som i hk
    obtain ⟨Y, s1, k1, a⟩ := hw.get e
    obtain ⟨Y', s1', k1', a'⟩ := hw'.get e'
    refine .inr ⟨_, _, a, a', ?_, congrArg List.length h3, h6, h7⟩
    have r := (s.slot i hi _ a).run_
    have r' := (s'.slot i hi _ a').run_
    have hkk : k1 = k1' := by
      have := congrFun hc i
      unfold cnt at this
      rw [a, a'] at this
      exact this
    dsimp only at r r'
    rw [h1, h2, h3, ← hkk] at r'
    exact r'.det r
  · obtain ⟨e, e'⟩ := h.non i hk
    exact .inl ⟨hw.none_ e, hw'.none_ e'⟩
set_option maxRecDepth 100000 in
set_option maxHeartbeats 8000000 in
/-- two answers that are the same -/
theorem same_answer (st : Int) (r : Rnd) (A : Option Addr) (c : Nat) (A' : Option Addr) (c' : Nat) (w : World) (h : Sl w w.heap.size 1 ci A r.path) (h' : Sl w w.heap.size 1 ci A' r.path) (hk : r.path.length ≤ 1000000) :
    Calls Try.prog 15 #[.agg #[.int .i64 st, .int .i64 r.num, .int .i64 r.den, .slice A r.path.length c, .int .i64 r.cost, .int .i64 r.done], .agg #[.int .i64 st, .int .i64 r.num, .int .i64 r.den, .slice A' r.path.length c', .int .i64 r.cost, .int .i64 r.done]] w fun e w' => e = .returned (.bool true) ∧ Below w.heap.size w w' := by
  obtain ⟨w0, hw0⟩ : ∃ w0, w0 = (w.alloc (.cells #[.int .i64 st, .int .i64 r.num, .int .i64 r.den, .slice A r.path.length c, .int .i64 r.cost, .int .i64 r.done] 45)).alloc (.cells #[.int .i64 st, .int .i64 r.num, .int .i64 r.den, .slice A' r.path.length c', .int .i64 r.cost, .int .i64 r.done] 45) := ⟨_, rfl⟩
  have hb0 : Below w.heap.size w w0 := by rw [hw0]; exact ((Below.refl _ _).alloc (Nat.le_refl _) _).alloc (by simp) _
  have key := same_round ⟨r.num, r.den, A, r.path.length, c, r.cost, r.done, r.path⟩ ⟨r.num, r.den, A', r.path.length, c', r.cost, r.done, r.path⟩ w0 ((h.keep hb0 (Nat.le_refl _)).more hb0.size) ((h'.keep hb0 (Nat.le_refl _)).more hb0.size) rfl rfl hk rfl
  unfold rv at key
  dsimp only at key
  have KEY := Lib.hid key
  have HB0 := Lib.hid hb0
  clear key h h' hb0
  generalize r.path.length = m at *
  go_enter Try.func15, Try.ntmps15
  go_wp2_with fail
  rw [← hw0]
  refine KEY.out.mono ?_
  rintro e w1 ⟨rfl, hb1⟩
  have HB1 := Lib.hid (HB0.out.trans (hb1.mono HB0.out.size))
  clear hb1 HB0 KEY hw0
  go_wp2
  go_ret
  exact ⟨rfl, HB1.out⟩
end Go.Proofs.Ytpoolpaagbeokaa.Serve

namespace Go.Proofs.Ytpoolpaagbeokaa.Serve
open Go.RowKit Go.Proofs.Ytpoolpaagbeokaa NetLaw BellLaw StarLaw AraLaw RatioLaw Go.Proofs.Ytpoolpaagbeokaa.Net Go.Proofs.Ytpoolpaagbeokaa.Std Go.Proofs.Ytpoolpaagbeokaa.Flow Go.Proofs.Ytpoolpaagbeokaa.Ara Go.Proofs.Ytpoolpaagbeokaa.GroundLaw
open Go.Proofs.Ytpoolpaagbeokaa.GridLaw hiding E
open Go.Proofs.Ytpoolpaagbeokaa.ServeLaw
open Go.Proofs.Ytpoolpaagbeokaa.StarF (wgt wgt_zero)
set_option linter.unusedSimpArgs false
set_option linter.unusedVariables false
theorem wcode_wgt {ws : List (Int × Int)} (h : wcode ws = 0) : ∀ w ∈ ws, wgt w.1 w.2 = 0 := by
  unfold wcode at h
  split at h
  · exact absurd h (by decide)
  · split at h
    · exact absurd h (by decide)
    · exact wgo_ok ws none h
section
variable {b0 : Nat} {w w' : World} {Z : Nat} {W H : Int} {AC : Option Addr} {cC : Nat} {l : List Int} {turn : Nat} {σ : Nat → Option Slt} {D : Nat → Nat → Prop}
theorem SL.wt_ {n : Nat} {m : List E} {Dk : Nat → Prop} {g : Slt} (h : SL b0 w n m Dk g) {R0 : List Rnd} {r : Rnd} (hr : g.s.rds = R0 ++ [r]) : g.F.ws[R0.length]? = some (r.num, r.den) ∧ Ok r.num r.den ∧ r.path.length ≤ 64 := by
  obtain ⟨V, _, _, hRI⟩ := h.sr.si h.fo h.po
  have hl : R0.length < g.F.ws.length := by have h1 := hRI.len; rw [hr] at h1; simp at h1; omega
  have h1 : (g.s.rds.map (fun r => (r.num, r.den)))[R0.length]? = some (r.num, r.den) := by rw [List.getElem?_map, hr, List.getElem?_append_right (Nat.le_refl _), Nat.sub_self]; rfl
  rw [hRI.wts, hr, List.length_append, List.length_singleton, List.getElem?_take, if_pos (Nat.lt_succ_self _)] at h1
  refine ⟨h1, ?_, (SI.paths (h.sr.si h.fo h.po)).1 r (by rw [hr]; simp)⟩
  exact (wgt_zero.1 (wcode_wgt h.wc _ (List.mem_of_getElem? h1))).1
/-- a frame long enough: all are over -/
theorem frame_over (h : SV b0 w Z W H AC cC l turn σ D) : Calls Try.prog 13 #[.pointer (some ⟨Z, 0, none⟩), .int .i64 10000] w fun e w' => ∃ (u t' : Nat) (σ' : Nat → Option Slt) (D' : Nat → Nat → Prop), e = .returned (.tuple #[.int .i64 u, .int .i64 0]) ∧ SV b0 w' Z W H AC cC l t' σ' D' ∧ Went σ σ' ∧ (∀ i, i < 6 → ∀ g, σ' i = some g → g.s.rds.length = g.F.ws.length) ∧ Off (fun g => g = Z ∨ DS D g) w w' ∧ ∀ g, DS D' g → DS D g ∨ w.heap.size ≤ g := by
  refine (frame_any h 10000 (by decide) (by decide)).mono ?_
  rintro e w' ⟨u, t', σ', D', rfl, sv, wt, rn, le, st, of, nd⟩
  have hu : u ≤ 6006 := sv.sum_le_ rn
  exact ⟨u, t', σ', D', rfl, sv, wt, sv.stuck_over wt (st (by omega)), of, nd⟩
end
set_option maxRecDepth 100000 in
set_option maxHeartbeats 1000000 in
/-- grids of one size: the same where the cells are -/
theorem same_cells (W H : Int) (A A' : Option Addr) (c c' : Nat) (l l' : List Int) (b : Bool) (hb : decide (l = l') = b) (w : World) (hl : Sl w w.heap.size 1 ci A l) (hm : Sl w w.heap.size 1 ci A' l') (hlen : l.length ≤ 1048576) :
    Calls Try.prog 25 #[.agg #[.int .i64 W, .int .i64 H, .slice A l.length c], .agg #[.int .i64 W, .int .i64 H, .slice A' l'.length c']] w fun e w' => e = .returned (.bool b) ∧ Below w.heap.size w w' := by
  have hb0 : Below w.heap.size w ((w.alloc (.cells #[.int .i64 W, .int .i64 H, .slice A l.length c] 24)).alloc (.cells #[.int .i64 W, .int .i64 H, .slice A' l'.length c'] 24)) := ((Below.refl _ _).alloc (Nat.le_refl _) _).alloc (by simp) _
  have key := equal_int' A A' l.length l'.length c c' l l' w.heap.size w.heap.size _ (hl.keep hb0 (Nat.le_refl _)) (hm.keep hb0 (Nat.le_refl _)) rfl rfl (by omega) b hb
  have KEY := Lib.hid key
  clear key hl hm hb
  generalize l.length = n at *
  generalize l'.length = n' at *
  go_enter Try.func25, Try.ntmps25
  go_wp2_with fail
  refine KEY.out.mono ?_
  rintro e w1 ⟨rfl, k, rfl⟩
  have hB1 := below_drewN hb0 k
  clear hb0
  go_wp2
  go_ret
  exact ⟨rfl, hB1⟩
end Go.Proofs.Ytpoolpaagbeokaa.Serve
