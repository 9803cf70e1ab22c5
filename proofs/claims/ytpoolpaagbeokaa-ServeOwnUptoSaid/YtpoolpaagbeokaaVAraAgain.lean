/- All blocks of a search: it stays what it is where these stay. -/
/- The walk of (*ara.Search).again. -/
import Derived.Test.YtpoolpaagbeokaaVAraFresh
import Derived.Test.YtpoolpaagbeokaaVBellWalks
import Derived.Lib.SliceRun
import Derived.BigFrame
namespace Go.Proofs.Ytpoolpaagbeokaa.Ara
open Go.RowKit Go.Proofs.Ytpoolpaagbeokaa NetLaw BellLaw StarLaw AraLaw Go.Proofs.Ytpoolpaagbeokaa.Net Go.Proofs.Ytpoolpaagbeokaa.Std Go.Proofs.Ytpoolpaagbeokaa.Flow
open Go.Proofs.Ytpoolpaagbeokaa.Heap (Kp Kp.refl Kp.below Kp.alloc Kp.drew Kp.setCell Kp.grown Kp.to fnOf)
open Go.Proofs.Ytpoolpaagbeokaa.HeapP (HeapAt d0 ltP ltP_ord)
set_option linter.unusedSimpArgs false
set_option linter.unusedVariables false
/-- an own row stays where its block stays -/
theorem own_keepB {α : Type} {w w' : World} {b : Nat} {e : TypeId} {sz : Nat} {cell : α → Nat → Value} {v : Value} {l : List α} (h : Own w b e sz cell v l) (hk : ∀ g, v.ownBlock = some g → w'.heap[g]? = w.heap[g]?) : Own w' b e sz cell v l := by
  refine ⟨h.1, ?_⟩
  rcases h.2 with h3 | ⟨g, cap, cur, rfl, hg, hh, rest⟩
  · exact .inl h3
  · exact .inr ⟨g, cap, cur, rfl, hg, (hk g rfl).trans hh, rest⟩
/-- a block of the search -/
def All (P : Nat) (F : Fix) (Y : Var) (g : Nat) : Prop := Mut P F Y g ∨ ob F.AE = some g ∨ g = F.TO ∨ (∃ v, v < F.n ∧ ob (F.FO v).1 = some g) ∨ ob F.AH = some g ∨ ob F.AW = some g ∨ ∃ x ∈ Y.RS, ob x.A = some g
section
variable {b : Nat} {w w' : World} {P : Nat} {F : Fix} {Y Y' : Var} {s : AS} {K : Nat}
theorem AM.keepF (h : AM b w P F Y s) (hk : ∀ g, All P F Y g → w'.heap[g]? = w.heap[g]?) : AM b w' P F Y s := by
  have hm : ∀ g, Mut P F Y g → w'.heap[g]? = w.heap[g]? := fun g hg => hk g (.inl hg)
  have htab : Tab w' b F.TO F.n F.FO (ol F.l F.l.length) := by
    obtain ⟨cs, hb, hs, hc⟩ := h.tab.blk
    exact ⟨h.tab.lo, ⟨cs, (hk _ (.inr (.inr (.inl rfl)))).trans hb, hs, hc⟩, fun v hv => own_keepB (h.tab.own v hv) (fun g e => hk g (.inr (.inr (.inr (.inl ⟨v, hv, (ob_ ..).symm.trans e⟩))))), h.tab.sep⟩
  exact ⟨(hm P (.inl rfl)).trans h.z, h.zl, own_keepB h.net (fun g e => hk g (.inr (.inl ((ob_ ..).symm.trans e)))), htab, own_keepB h.hh (fun g e => hk g (.inr (.inr (.inr (.inr (.inl ((ob_ ..).symm.trans e))))))), own_keepB h.wt (fun g e => hk g (.inr (.inr (.inr (.inr (.inr (.inl ((ob_ ..).symm.trans e)))))))),
    own_keepB h.cost (fun g e => hm g (.inr (.inl (by injection e with e; exact e.symm)))), own_keepB h.pred (fun g e => hm g (.inr (.inr (.inl (by injection e with e; exact e.symm))))), own_keepB h.done (fun g e => hm g (.inr (.inr (.inr (.inl (by injection e with e; exact e.symm)))))),
    own_keepB h.late (fun g e => hm g (.inr (.inr (.inr (.inr (.inr (.inr (.inl ((ob_ ..).symm.trans e))))))))), ⟨h.heap.hb, (hm F.H (.inr (.inr (.inr (.inr (.inl rfl)))))).trans h.heap.blk, own_keepB h.heap.own (fun g e => hm g (.inr (.inr (.inr (.inr (.inr (.inl ((ob_ ..).symm.trans e)))))))), h.heap.len⟩, h.hp,
    own_keepB h.rows (fun g e => hm g (.inr (.inr (.inr (.inr (.inr (.inr (.inr ((ob_ ..).symm.trans e))))))))), fun x hx => own_keepB (h.ways x hx) (fun g e => hk g (.inr (.inr (.inr (.inr (.inr (.inr ⟨x, hx, (ob_ ..).symm.trans e⟩))))))), h.rds, h.lenC, h.lenP, h.lenD, h.lenH, h.lenL, h.lenR, h.neCP, h.neH, h.neO, h.neL, h.neW⟩
/-- all of a search's blocks are its own -/
theorem AM.all (h : AM b w P F Y s) {g : Nat} (hg : All P F Y g) : b ≤ g ∧ g < w.heap.size := by
  rcases hg with hg | hg | rfl | ⟨v, hv, hg⟩ | hg | hg | ⟨x, hx, hg⟩
  · exact h.mut hg
  · exact h.net.base_ _ ((ob_ ..).trans hg)
  · exact ⟨h.tab.lo, h.tab.lt⟩
  · exact (h.tab.own v hv).base_ _ ((ob_ ..).trans hg)
  · exact h.hh.base_ _ ((ob_ ..).trans hg)
  · exact h.wt.base_ _ ((ob_ ..).trans hg)
  · exact (h.ways x hx).base_ _ ((ob_ ..).trans hg)
/-- a block that is there and not the search's is not the search's later -/
theorem Fr.notall (h : Fr P F Y Y' w w') {g : Nat} (hg : ¬ All P F Y g) (hl : g < w.heap.size) : ¬ All P F Y' g := fun ha => by
  rcases ha with ha | ha | ha | ha | ha | ha | ⟨x, hx, ha⟩
  · rcases h.new g ha with h1 | h1
    · exact hg (.inl h1)
    · omega
  · exact hg (.inr (.inl ha))
  · exact hg (.inr (.inr (.inl ha)))
  · exact hg (.inr (.inr (.inr (.inl ha))))
  · exact hg (.inr (.inr (.inr (.inr (.inl ha)))))
  · exact hg (.inr (.inr (.inr (.inr (.inr (.inl ha))))))
  · rcases h.ways x hx with h1 | h1
    · exact hg (.inr (.inr (.inr (.inr (.inr (.inr ⟨x, h1, ha⟩))))))
    · have := h1 g ha; omega
/-- such a block stays as it was -/
theorem Fr.stays (h : Fr P F Y Y' w w') {g : Nat} (hg : ¬ All P F Y g) (hl : g < w.heap.size) : w'.heap[g]? = w.heap[g]? := h.block g hl (fun hm => hg (.inl hm))
theorem AM.far (h : AM b w P F Y s) {p : Addr} (hp : ¬ All P F Y p.block) (u : Value) : AM b (w.setCell p u) P F Y s := h.keepF fun g hg => Below.heap_setCell _ _ _ _ (fun e => hp (e ▸ hg))
theorem AM.congr {s' : AS} (h : AM b w P F Y s) (h1 : s'.C = s.C) (h2 : s'.P = s.P) (h3 : s'.dn = s.dn) (h4 : s'.sp = s.sp) (h5 : s'.rds = s.rds) : AM b w P F Y s' := by
  refine ⟨by rw [h4]; exact h.z, h.zl, h.net, h.tab, h.hh, h.wt, by rw [h1]; exact h.cost, by rw [h2]; exact h.pred, by rw [h3]; exact h.done, h.late, h.heap, h.hp, h.rows, h.ways, by rw [h5]; exact h.rds, by rw [h1]; exact h.lenC, by rw [h2]; exact h.lenP, by rw [h3]; exact h.lenD, h.lenH, h.lenL, h.lenR, h.neCP, h.neH, h.neO, h.neL, h.neW⟩
theorem HR.congr {s' : AS} {u : Int × Int} (h : HR F Y s u K) (h1 : s'.C = s.C) (h3 : s'.dn = s.dn) (h4 : ∀ v : Int, 0 ≤ v → v < F.n → s'.op v = s.op v) (h5 : ∀ v : Int, 0 ≤ v → v < F.n → s'.lt v = s.lt v) : HR F Y s' u K := by
  have hop : ∀ v, AraLaw.Op F.n s' v → AraLaw.Op F.n s v := fun v hv => ⟨hv.1, by rw [← h4 v hv.1.1 hv.1.2]; exact hv.2⟩
  refine ⟨fun v hv => ?_, fun x hx => ?_, fun v hv => ?_, fun v v0 v1 => ?_, h.lr, h.bm, h.bl⟩
  · have := h.mem v (hop v hv)
    unfold kyA at this ⊢
    rw [h1]
    exact this
  · obtain ⟨a, b, c⟩ := h.ids x hx
    refine ⟨a, b, fun hd => ?_⟩
    rw [h4 _ a.1 a.2]
    rw [h3] at hd
    exact c hd
  · rw [h3]
    exact h.od v (hop v hv)
  · rw [h5 v v0 v1]
    exact h.late v v0 v1
/-- a pop, whatever waits -/
theorem AM.pop (h : AM b w P F Y s) {k : Nat} (hm : Y.m = k + 1) (hK : Y.m ≤ 1000000000) :
    Calls Try.prog 44 #[.pointer (some ⟨F.H, 0, none⟩)] w fun e w' => ∃ a g x L', e = .returned (.agg #[.int .i64 a, .int .i64 g, .int .i64 x]) ∧ Y.L.getD 0 d0 = (a, g, x) ∧ ((a, g, x) :: L').Perm Y.L ∧ AM b w' P F (Y.heap' Y.Ah k Y.ch L') s ∧ Fr P F Y (Y.heap' Y.Ah k Y.ch L') w w' := by
  have hh := h.heap
  rw [hm] at hh
  refine (HeapP.pop_any ltP ltP_ord HeapP.less_any b F.H Y.Ah k Y.ch Y.L w hh h.hp (by omega) h.size).mono ?_
  rintro e w' ⟨a, g, x, L', rfl, hg, hh2, hpm, hhp, hkp⟩
  have hkp2 : Kp w w' F.H (Value.slice Y.Ah Y.m Y.ch).ownBlock := by rw [obrow] at hkp ⊢; exact hkp
  exact ⟨a, g, x, L', rfl, hg, hpm, h.kp hkp2 hh2 hhp, Fr.kp hkp2 (fun S e => .inl e)⟩
end
end Go.Proofs.Ytpoolpaagbeokaa.Ara

namespace Go.Proofs.Ytpoolpaagbeokaa.Ara
open Go.RowKit Go.Proofs.Ytpoolpaagbeokaa NetLaw BellLaw StarLaw AraLaw Go.Proofs.Ytpoolpaagbeokaa.Net Go.Proofs.Ytpoolpaagbeokaa.Std Go.Proofs.Ytpoolpaagbeokaa.Flow
open Go.Proofs.Ytpoolpaagbeokaa.HeapP (HeapAt d0 ltP ltP_ord)
set_option linter.unusedSimpArgs false
set_option linter.unusedVariables false
/-- who waits, as far as the heap was emptied -/
structure G1 (F : Fix) (s : AS) (L : List HeapP.Pop) (B : List Bool) : Prop where
  len : B.length = F.n
  sub : ∀ v : Int, 0 ≤ v → v < F.n → db B v = true → s.op v = true
  cov : ∀ v, AraLaw.Op F.n s v → db B v = true ∨ ∃ x ∈ L, x.2.2 = v
  ids : ∀ x ∈ L, (0 ≤ x.2.2 ∧ x.2.2 < F.n) ∧ (db s.dn x.2.2 = false → s.op x.2.2 = true)
  od : ∀ v, AraLaw.Op F.n s v → db s.dn v = false
section
variable {F : Fix} {Y : Var} {s : AS} {L L' : List HeapP.Pop} {B : List Bool} {u : Int × Int} {K : Nat}
theorem db_setN {l : List Bool} {k : Nat} {x : Bool} (hk : k < l.length) {v : Int} (v0 : 0 ≤ v) : db (l.set k x) v = if v = (k : Int) then x else db l v := by
  obtain ⟨j, rfl⟩ := Int.eq_ofNat_of_zero_le v0
  unfold db
  rw [Int.toNat_natCast, List.getD_eq_getElem?_getD, List.getD_eq_getElem?_getD, List.getElem?_set]
  by_cases e : k = j
  · subst e
    simp [hk]
  · have : ¬ ((j : Int) = (k : Int)) := by omega
    rw [if_neg e, if_neg this]
theorem G1.start (h : HR F Y s u K) : G1 F s Y.L (List.replicate F.n false) :=
  ⟨by simp, fun v v0 v1 hb => (by rw [db_rep] at hb; cases hb), fun v hv => .inr ⟨_, h.mem v hv, rfl⟩, fun x hx => ⟨(h.ids x hx).1, (h.ids x hx).2.2⟩, h.od⟩
theorem G1.skip (h : G1 F s L B) {x : HeapP.Pop} (hp : (x :: L').Perm L) (hd : db s.dn x.2.2 = true) : G1 F s L' B := by
  refine ⟨h.len, h.sub, fun v hv => ?_, fun y hy => h.ids y (hp.mem_iff.1 (List.mem_cons_of_mem _ hy)), h.od⟩
  rcases h.cov v hv with h1 | ⟨y, hy, rfl⟩
  · exact .inl h1
  · rcases List.mem_cons.1 (hp.mem_iff.2 hy) with rfl | hy
    · have := h.od _ hv
      rw [hd] at this
      cases this
    · exact .inr ⟨y, hy, rfl⟩
theorem G1.mark (h : G1 F s L B) {x : HeapP.Pop} (hp : (x :: L').Perm L) (hd : db s.dn x.2.2 = false) {k : Nat} (hk : x.2.2 = (k : Int)) : G1 F s L' (B.set k true) := by
  obtain ⟨⟨x0, x1⟩, x2⟩ := h.ids x (hp.mem_iff.1 (by simp))
  have hkl : k < B.length := by rw [h.len]; omega
  refine ⟨by rw [List.length_set]; exact h.len, fun v v0 v1 hb => ?_, fun v hv => ?_, fun y hy => h.ids y (hp.mem_iff.1 (List.mem_cons_of_mem _ hy)), h.od⟩
  · rw [db_setN hkl v0] at hb
    by_cases e : v = (k : Int)
    · rw [e, ← hk]; exact x2 hd
    · rw [if_neg e] at hb; exact h.sub v v0 v1 hb
  · rw [db_setN hkl hv.1.1]
    by_cases e : v = (k : Int)
    · rw [if_pos e]; exact .inl rfl
    · rw [if_neg e]
      rcases h.cov v hv with h1 | ⟨y, hy, rfl⟩
      · exact .inl h1
      · rcases List.mem_cons.1 (hp.mem_iff.2 hy) with rfl | hy
        · exact absurd hk e
        · exact .inr ⟨y, hy, rfl⟩
/-- who waits, as far as the late ones were looked at -/
structure G2 (F : Fix) (s : AS) (LT : List Int) (B : List Bool) (j : Nat) : Prop where
  len : B.length = F.n
  iff : ∀ v : Int, 0 ≤ v → v < F.n → (db B v = true ↔ s.op v = true ∨ v ∈ LT.take j)
theorem G2.start (h : G1 F s [] B) {LT : List Int} : G2 F s LT B 0 :=
  ⟨h.len, fun v v0 v1 => by
    rw [List.take_zero]
    refine ⟨fun hb => .inl (h.sub v v0 v1 hb), fun ho => ?_⟩
    rcases ho with ho | ho
    · rcases h.cov v ⟨⟨v0, v1⟩, ho⟩ with h1 | ⟨y, hy, _⟩
      · exact h1
      · cases hy
    · cases ho⟩
theorem G2.next {LT : List Int} {j : Nat} (h : G2 F s LT B j) (hj : j < LT.length) {k : Nat} (hk : LT[j] = (k : Int)) (hkn : k < F.n) : G2 F s LT (B.set k true) (j + 1) := by
  have hkl : k < B.length := by rw [h.len]; exact hkn
  refine ⟨by rw [List.length_set]; exact h.len, fun v v0 v1 => ?_⟩
  rw [db_setN hkl v0, List.take_succ_eq_append_getElem hj, List.mem_append, List.mem_singleton, hk]
  by_cases e : v = (k : Int)
  · rw [if_pos e]; simp [e]
  · rw [if_neg e, h.iff v v0 v1]; simp [e]
/-- the state while those that wait are put anew -/
def s3 (s : AS) (B : List Bool) (j : Nat) : AS := { s with dn := List.replicate s.dn.length false, lt := fun _ => false, op := fun v => decide (v < (j : Int)) && db B v }
theorem hr_zero (hl : Y.L.length = Y.m) (hm : Y.m = 0) (hk : Y.kl = 0) (hLT : Y.LT = []) : HR F Y (s3 s B 0) u 0 := by
  have hno : ∀ v, ¬ AraLaw.Op F.n (s3 s B 0) v := fun v hv => by
    have h1 : (decide (v < ((0 : Nat) : Int)) && db B v) = true := hv.2
    rw [Bool.and_eq_true, decide_eq_true_eq] at h1
    have := hv.1.1
    omega
  have hL : Y.L = [] := List.eq_nil_of_length_eq_zero (by omega)
  exact ⟨fun v hv => absurd hv (hno v), fun x hx => (by rw [hL] at hx; cases hx), fun v hv => absurd hv (hno v), fun v _ _ => (by rw [hLT]; exact ⟨fun h => (nomatch h), fun h => (nomatch h)⟩), fun v hv => (by rw [hLT] at hv; cases hv), by omega, by omega⟩
theorem op_s3 {j : Nat} {v : Int} : (s3 s B (j + 1)).op v = if v = (j : Int) then db B j else (s3 s B j).op v := by
  show (decide (v < ((j + 1 : Nat) : Int)) && db B v) = _
  by_cases e : v = (j : Int)
  · subst e
    rw [if_pos rfl]
    have : decide ((j : Int) < ((j + 1 : Nat) : Int)) = true := decide_eq_true (by omega)
    rw [this, Bool.true_and]
  · rw [if_neg e]
    show _ = (decide (v < ((j : Nat) : Int)) && db B v)
    have : decide (v < ((j + 1 : Nat) : Int)) = decide (v < (j : Int)) := by rw [decide_eq_decide]; omega
    rw [this]
theorem hr_skip {j : Nat} (h : HR F Y (s3 s B j) u K) (hb : db B j = false) : HR F Y (s3 s B (j + 1)) u (K + 1) := by
  refine HR.more (K := K) (HR.congr (s := s3 s B j) h rfl rfl (fun v _ _ => ?_) (fun _ _ _ => rfl)) (Nat.le_succ _)
  rw [op_s3]
  split
  · rename_i e
    show _ = (decide (v < ((j : Nat) : Int)) && db B v)
    rw [hb, e, hb, Bool.and_false]
  · rfl
theorem set_same {l : List Int} {v : Nat} (hv : v < l.length) : l.set v (dg l v) = l := by
  unfold dg
  rw [Int.toNat_natCast, List.getD_eq_getElem?_getD, List.getElem?_eq_getElem hv]
  exact List.set_getElem_self hv
theorem hr_put {j : Nat} (h : HR F Y (s3 s B j) u K) (hb : db B j = true) (hl : s.C.length = F.n) (hj : j < F.n) {A : Option Addr} {c' : Nat} (hp : L'.Perm ((u.2 * dg s.C j + u.1 * dg F.h j, dg F.h j, (j : Int)) :: Y.L)) : HR F (Y.heap' A (Y.m + 1) c' L') (s3 s B (j + 1)) u (K + 1) := by
  have h1 := h.put (P := s.P) (A := A) (c' := c') hl hj (c := dg s.C j) (db_rep _ _) hp
  refine h1.congr ?_ rfl (fun v _ _ => ?_) (fun _ _ _ => rfl)
  · show s.C = s.C.set j (dg s.C j)
    rw [set_same (by rw [hl]; exact hj)]
  · rw [op_s3]
    show _ = up (s3 s B j).op (j : Int) true v
    by_cases e : v = (j : Int)
    · rw [if_pos e, e, up_eq]; exact hb
    · rw [if_neg e, up_ne e]
theorem hr_end {LT : List Int} (h : HR F Y (s3 s B F.n) u K) (hg : G2 F s LT B LT.length) (hlt : ∀ v : Int, 0 ≤ v → v < F.n → (s.lt v = true ↔ v ∈ LT)) : HR F Y (AraLaw.again s) u K := by
  refine h.congr rfl rfl (fun v v0 v1 => ?_) (fun _ _ _ => rfl)
  show (s.op v || s.lt v) = (decide (v < (F.n : Int)) && db B v)
  have h1 := hg.iff v v0 v1
  rw [List.take_length, ← hlt v v0 v1] at h1
  have : decide (v < (F.n : Int)) = true := decide_eq_true v1
  rw [this, Bool.true_and]
  cases hb : db B v with
  | true => rw [hb] at h1; have := h1.1 rfl; rcases this with h2 | h2 <;> rw [h2] <;> simp
  | false =>
    rw [hb] at h1
    cases ho : s.op v with
    | true => exact absurd (h1.2 (.inl ho)) (by decide)
    | false =>
      cases hl : s.lt v with
      | true => exact absurd (h1.2 (.inr hl)) (by decide)
      | false => rfl
end
theorem zero_bool (w : World) : (zeroValue 4).run Try.prog w = .ok (.bool false) w := by kernel_rfl
section
variable {b : Nat} {w w' w0 : World} {P : Nat} {F : Fix} {Y Y' : Var} {s : AS} {K : Nat}
theorem AM.clr (m : Nat) : ∀ (o : Nat) (w : World) (s : AS), AM b w P F Y s → o + m = F.n → AM b (w.setCells F.SD o (List.replicate m (.bool false))) P F Y { s with dn := s.dn.take o ++ List.replicate m false } := by
  induction m with
  | zero =>
    intro o w s h ho
    refine h.congr rfl rfl ?_ rfl rfl
    show s.dn.take o ++ [] = s.dn
    rw [List.append_nil, List.take_of_length_le (by rw [h.lenD]; omega)]
  | succ m ih =>
    intro o w s h ho
    rw [List.replicate_succ]
    have h1 := ih (o + 1) _ _ (h.setD (k := o) (by omega) false) (by omega)
    refine h1.congr rfl rfl ?_ rfl rfl
    show s.dn.take o ++ List.replicate (m + 1) false = (s.dn.set o false).take (o + 1) ++ List.replicate m false
    have hol : o < s.dn.length := by rw [h.lenD]; omega
    have hol2 : o < (s.dn.set o false).length := by rw [List.length_set]; exact hol
    rw [List.take_succ_eq_append_getElem hol2, List.getElem_set_self, List.take_set_of_le (Nat.le_refl _), List.append_assoc, List.replicate_succ]
    rfl
theorem Fr.clr (vs : List Value) : ∀ (o : Nat) (w : World), Fr P F Y Y' w0 w → Mut P F Y F.SD → Fr P F Y Y' w0 (w.setCells F.SD o vs) := by
  induction vs with
  | nil => intro o w h _; exact h
  | cons v vs ih => intro o w h hm; exact ih (o + 1) _ (h.set (p := ⟨F.SD, o, none⟩) (.inl hm) v) hm
theorem AM.clearD (h : AM b w P F Y s) : AM b (w.setCells F.SD 0 (List.replicate F.n (.bool false))) P F Y { s with dn := List.replicate s.dn.length false } ∧ Fr P F Y Y w (w.setCells F.SD 0 (List.replicate F.n (.bool false))) := by
  refine ⟨(AM.clr F.n 0 w s h (Nat.zero_add _)).congr rfl rfl ?_ rfl rfl, Fr.clr _ _ _ (Fr.refl _ _ _ _) (.inr (.inr (.inr (.inl rfl))))⟩
  show List.replicate s.dn.length false = s.dn.take 0 ++ List.replicate F.n false
  rw [h.lenD]
  rfl
/-- the row of those that wait, beside the search -/
structure Is (w : World) (bi g : Nat) (P : Nat) (F : Fix) (Y : Var) (B : List Bool) : Prop where
  own : Own w bi 4 1 cb (.slice (some ⟨g, 0, none⟩) F.n F.n) B
  no : ¬ All P F Y g
theorem Is.lt {bi g : Nat} {B : List Bool} (h : Is w bi g P F Y B) : g < w.heap.size := (h.own.base_ g rfl).2
theorem Is.fr {bi g : Nat} {B : List Bool} (h : Is w bi g P F Y B) (hf : Fr P F Y Y' w w') : Is w' bi g P F Y' B :=
  ⟨own_keepB h.own (fun g' e => by injection e with e; subst e; exact hf.stays h.no h.lt), hf.notall h.no h.lt⟩
theorem Is.keep {bi g : Nat} {B : List Bool} (h : Is w bi g P F Y B) (hb : Below w.heap.size w w') : Is w' bi g P F Y B := ⟨h.own.keep hb, h.no⟩
/-- what again leaves -/
def AgainSays (b : Nat) (w : World) (P : Nat) (F : Fix) (Y : Var) (s : AS) (e : Ending) (w' : World) : Prop :=
  (∃ r, e = .returned r) ∧ ∃ Y', SM b w' P F Y' (AraLaw.again s) 64 ∧ Fr P F Y Y' w w'
set_option maxRecDepth 100000 in
set_option maxHeartbeats 8000000 in
theorem again_any (hO : FO F) (h : AM b w P F Y s) {u : Int × Int} (hh : HR F Y s u K) (hcb : CB F s) (hr : s.rds.length < F.ws.length) (hK : K ≤ 100000000) :
    Calls Try.prog 61 #[.pointer (some ⟨P, 0, none⟩)] w fun e w' => AgainSays b w P F Y s e w' := by
  have hz64 : F.n ≤ 64 := hO.nb
  have htt := hO.tt
  have hb0 : Below w.heap.size w (w.alloc (.cells (madeCells #[.bool false] F.n) 4)) := (Below.refl _ _).alloc (Nat.le_refl _) _
  have is0 : Is (w.alloc (.cells (madeCells #[.bool false] F.n) 4)) w.heap.size w.heap.size P F Y (List.replicate F.n false) := ⟨own_madeB F.n w.heap.size w (Nat.le_refl _) (by omega) rfl, fun ha => by have := (h.all ha).2; omega⟩
  have am0 := h.keep hb0
  have fr0 : Fr P F Y Y w (w.alloc (.cells (madeCells #[.bool false] F.n) 4)) := Fr.of hb0
  have IS0 := Lib.hid is0
  have AM0 := Lib.hid am0
  have FR0 := Lib.hid fr0
  have HOO := Lib.hid hO
  have HHR := Lib.hid hh
  have HCB := Lib.hid hcb
  have HRR := Lib.hid hr
  have HG0 := Lib.hid (G1.start hh)
  have HKK : Hid (Y.kl ≤ 100000000 ∧ Y.m ≤ 100000000) := Lib.hid ⟨Nat.le_trans hh.bl hK, Nat.le_trans hh.bm hK⟩
  obtain ⟨⟨z0, _⟩, _, zp⟩ := h.zs
  have hmb : ∀ w, (Instr.makeSlice 97 (.int .i64 (F.n : Int)) (.int .i64 (F.n : Int))).run Try.prog w = .ok (.slice (some ⟨w.heap.size, 0, none⟩) F.n F.n) (w.alloc (.cells (madeCells #[.bool false] F.n) 4)) :=
    run_make_row' (P := Try.prog) 97 4 (.bool false) 1 Try.underlying97 (by kernel_rfl) rfl .i64 .i64 F.n (by omega) (by omega)
  have HNN := Lib.hid (And.intro hz64 htt)
  clear is0 am0 fr0 hO hh hcb hr hK h hb0 hz64 htt
  go_enter Try.func61, Try.ntmps61
  go_wp2_with (simp only [hmb])
  generalize w.alloc (.cells (madeCells #[.bool false] F.n) 4) = w1 at IS0 AM0 FR0 ⊢
  clear z0 zp hmb
  go_loopw [3] (fun v3 wr => ∃ Y' B, Hid (AM b wr P F Y' s) ∧ Hid (Fr P F Y Y' w wr) ∧ Hid (Is wr w.heap.size w.heap.size P F Y' B) ∧ Hid (G1 F s Y'.L B) ∧ Hid (Y'.LT = Y.LT ∧ Y'.kl = Y.kl ∧ Y'.m ≤ 100000000)) (fun _ wr => hlen wr F.H)
  case atStart => exact ⟨Y, _, AM0, FR0, IS0, HG0, Lib.hid ⟨rfl, rfl, HKK.out.2⟩⟩
  case round =>
    obtain ⟨Y', B, HM, HFR, HIS, HG, HY⟩ := hrel
    clear AM0 FR0 IS0 HG0
    obtain ⟨_, ⟨_, _, _, _, z10, _, _⟩, zp⟩ := HM.out.zs
    have hml := HM.out.heap.len
    have klen := HeapP.len_any wr HM.out.heap
    have KLEN := Lib.hid klen
    obtain ⟨m', hm'⟩ : ∃ m', Y'.m = m' := ⟨_, rfl⟩
    have HMM := Lib.hid hm'
    rw [hm'] at KLEN hml
    clear klen hm'
    go_wp2_with fail
    refine KLEN.out.mono ?_
    rintro e w2 ⟨rfl, hw2⟩
    have hw2' := hw2.symm
    clear hw2
    subst hw2'
    rcases Nat.eq_zero_or_pos m' with hm0 | hm0
    · subst hm0
      have hL0 : Y'.L = [] := List.eq_nil_of_length_eq_zero hml
      have hg0 := HG.out
      rw [hL0] at hg0
      have hg2 : G2 F s Y'.LT B 0 := G2.start hg0
      have HG2 := Lib.hid hg2
      obtain ⟨_, ⟨_, _, _, z9, _, _, _⟩, _⟩ := HM.out.zs
      have hkl : Y'.kl ≤ 100000000 := by rw [HY.out.2.1]; exact HKK.out.1
      have hlr : ∀ v ∈ Y'.LT, 0 ≤ v ∧ v < F.n := by rw [HY.out.1]; exact HHR.out.lr
      have HLR := Lib.hid hlr
      have HLL := Lib.hid HM.out.lenL
      have HL0 := Lib.hid hL0
      clear hL0 hg0 hg2 hlr z10 KLEN HG hml
      go_wp2
      rename World => wo
      go_loopw [43] (fun i wq => ∃ (j : Nat) (B2 : List Bool), i = .int .i64 j ∧ j ≤ Y'.kl ∧ Hid (AM b wq P F Y' s) ∧ Hid (Fr P F Y Y' w wq) ∧ Hid (Is wq w.heap.size w.heap.size P F Y' B2) ∧ Hid (G2 F s Y'.LT B2 j)) (fun i _ => Y'.kl - (intOf i).toNat)
      case atStart => exact ⟨0, B, rfl, Nat.zero_le _, HM, HFR, HIS, HG2⟩
      case round =>
        obtain ⟨j, B2, rfl, hj, HM2, HF2, HI2, HGG⟩ := hrel
        clear HM HFR HIS HG2
        by_cases hlt : j < Y'.kl
        · have hjl : j < Y'.LT.length := by rw [HLL.out]; exact hlt
          obtain ⟨bq, oq, hA, hbq, hcj⟩ := HM2.out.late.sl.2.atI hjl
          obtain ⟨x0, x1⟩ := HLR.out _ (List.getElem_mem hjl)
          obtain ⟨x, hx⟩ := Int.eq_ofNat_of_zero_le x0
          rw [hx] at hcj x1
          have hxn : x < F.n := by omega
          have hgn := HGG.out.next hjl hx hxn
          have HGN := Lib.hid hgn
          have zx : (x : Int) < (F.n : Int) := x1
          have zj : (j : Int) < (Y'.kl : Int) := by omega
          obtain ⟨i1, i2⟩ := own_atG false HGG.out.len HI2.out.own hxn
          have zgi := HI2.out.lt
          have am5 := HM2.out.far (p := ⟨w.heap.size, x, none⟩) HI2.out.no (.bool true)
          have is5 : Is (wr.setCell ⟨w.heap.size, x, none⟩ (.bool true)) w.heap.size w.heap.size P F Y' (B2.set x true) := ⟨own_setG HGG.out.len HI2.out.own x hxn true, HI2.out.no⟩
          have fr5 := HF2.out.set (p := ⟨w.heap.size, x, none⟩) (.inr (Nat.le_refl _)) (.bool true)
          have HM5 := Lib.hid am5
          have HI5 := Lib.hid is5
          have HF5 := Lib.hid fr5
          clear am5 is5 fr5 hx x0 x1 hgn hjl
          go_wp2
          go_roundw
          case rel => exact ⟨j + 1, _, by simp, hlt, HM5, HF5, HI5, HGN⟩
          case measure => simp [intOf]; omega
        · have hjk : j = Y'.kl := by omega
          subst hjk
          obtain ⟨nm, nf⟩ := HM2.out.nolate
          have nfr := HF2.out.trans nf
          have nis := HI2.out.fr nf
          obtain ⟨_, ⟨_, _, _, z9, _, _, _⟩, zp⟩ := HM2.out.zs
          obtain ⟨f9, _, _⟩ := HM2.out.free
          have zj : ¬ ((Y'.kl : Int) < (Y'.kl : Int)) := by omega
          have NM := Lib.hid nm
          have NF := Lib.hid nfr
          have NI := Lib.hid nis
          clear nm nf nfr nis
          go_upto_region 11 with fail
          generalize wr.setCell ⟨P, 9, none⟩ (.slice none 0 0) = w5 at NM NF NI ⊢
          clear z9 zp f9 HM2 HF2 HI2
          obtain ⟨_, ⟨_, _, z8, _, _, _, _⟩, zp⟩ := NM.out.zs
          have hcl : ∀ ty, (Builtin.clear_ #[97] ty #[.slice (some ⟨F.SD, 0, none⟩) F.n F.n]).run Try.prog w5 = .ok (.tuple #[]) (w5.setCells F.SD 0 (List.replicate F.n (.bool false))) :=
            fun ty => Lib.run_clear_slice w5 97 4 ty (.bool false) Try.underlying97 zero_bool rfl rfl F.SD 0 F.n F.n (by have := HNN.out.2; omega) (fun j hj => by rw [Nat.zero_add, (NM.out.cellD hj).1]; rfl) (fun j hj => by rw [Nat.zero_add]; exact (NM.out.cellD hj).2)
          obtain ⟨cm, cf⟩ := NM.out.clearD
          have am0 : AM b (w5.setCells F.SD 0 (List.replicate F.n (.bool false))) P F (Y'.late' none 0 0 []) (s3 s B2 0) := cm.congr rfl rfl rfl rfl rfl
          have fr0 := NF.out.trans cf
          have is0 := NI.out.fr cf
          have hr0 : HR F (Y'.late' none 0 0 []) (s3 s B2 0) (cwt F.ws s) 0 := hr_zero NM.out.heap.len HMM.out rfl rfl
          have AM0 := Lib.hid am0
          have FR0 := Lib.hid fr0
          have IS0 := Lib.hid is0
          have HR0 := Lib.hid hr0
          have hgl : G2 F s Y'.LT B2 Y'.LT.length := by rw [HLL.out]; exact HGG.out
          have HGL := Lib.hid hgl
          clear am0 fr0 is0 hr0 cm cf hgl
          go_wp2_with (simp only [hcl])
          generalize w5.setCells F.SD 0 (List.replicate F.n (.bool false)) = w6 at AM0 FR0 IS0 ⊢
          clear hcl NM NF NI z8 zp
          rename World => wo2
          go_loopw [60] (fun i wq => ∃ (k : Nat) (Y3 : Var), i = .int .i64 k ∧ k ≤ F.n ∧ Hid (AM b wq P F Y3 (s3 s B2 k)) ∧ Hid (Fr P F Y Y3 w wq) ∧ Hid (Is wq w.heap.size w.heap.size P F Y3 B2) ∧ Hid (HR F Y3 (s3 s B2 k) (cwt F.ws s) k)) (fun i _ => F.n - (intOf i).toNat)
          case atStart => exact ⟨0, _, rfl, Nat.zero_le _, AM0, FR0, IS0, HR0⟩
          case round =>
            obtain ⟨k, Y3, rfl, hk, HM3, HF3, HI3, HH3⟩ := hrel
            clear AM0 FR0 IS0 HR0
            by_cases hlt2 : k < F.n
            · have zk : (k : Int) < (F.n : Int) := by omega
              have zk64 : k < 64 := by have := HNN.out.1; omega
              obtain ⟨i1, _⟩ := own_atG false HGL.out.len HI3.out.own hlt2
              have zgi := HI3.out.lt
              have hdb : B2.getD k false = db B2 k := by unfold db; rw [Int.toNat_natCast]
              rw [hdb] at i1
              cases hb : db B2 (k : Int) with
              | false =>
                rw [hb] at i1
                have hh4 := hr_skip HH3.out hb
                have HH4 := Lib.hid hh4
                have HM4 := Lib.hid (HM3.out.congr (s' := s3 s B2 (k + 1)) rfl rfl rfl rfl rfl)
                clear hh4 hdb hb
                go_wp2
                go_roundw
                case rel => exact ⟨k + 1, Y3, by simp, hlt2, HM4, HF3, HI3, HH4⟩
                case measure => simp [intOf]; omega
              | true =>
                rw [hb] at i1
                have kput := put_any HM3.out HRR.out (HOO.out.wt HRR.out) hlt2 (HCB.out k (by omega) (by omega)) (HOO.out.hh k (by omega) (by omega)) (by have := HH3.out.bm; have := HNN.out.1; omega)
                have KPUT := Lib.hid kput
                have HB2 := Lib.hid hb
                clear kput hdb hb
                go_wp2_with fail
                refine KPUT.out.mono ?_
                rintro e w7 ⟨⟨r7, rfl⟩, A7, c7, L7, am7, hpm7, fr7⟩
                have hh4 := hr_put HH3.out HB2.out am7.lenC hlt2 (A := A7) (c' := c7) hpm7
                have HH4 := Lib.hid hh4
                have HM4 := Lib.hid (am7.congr (s' := s3 s B2 (k + 1)) rfl rfl rfl rfl rfl)
                have HF4 := Lib.hid (HF3.out.trans fr7)
                have HI4 := Lib.hid (HI3.out.fr fr7)
                clear hh4 am7 hpm7 fr7
                go_wp2
                go_roundw
                case rel => exact ⟨k + 1, _, by simp, hlt2, HM4, HF4, HI4, HH4⟩
                case measure => simp [intOf]; omega
            · have hkn : k = F.n := by omega
              subst hkn
              have zk : ¬ ((F.n : Int) < (F.n : Int)) := by omega
              have hfin : AgainSays b w P F Y s (.returned (.tuple #[])) wr := ⟨⟨_, rfl⟩, Y3, ⟨HM3.out.congr (s' := AraLaw.again s) rfl rfl rfl rfl rfl, fun _ => (hr_end HH3.out HGL.out (by rw [HY.out.1]; exact HHR.out.late)).more HNN.out.1, HCB.out⟩, HF3.out⟩
              have HFIN := Lib.hid hfin
              clear hfin
              go_wp2
              exact bodyPost_end (v := .tuple #[]) (by simp [results, Try.results61, go_sem]) rfl HFIN.out
    · obtain ⟨k, rfl⟩ : ∃ k, m' = k + 1 := ⟨m' - 1, by omega⟩
      have kpop := HM.out.pop HMM.out (by have := HY.out.2.2; omega)
      have KPOP := Lib.hid kpop
      have zk : (k : Int) + 1 > 0 := by omega
      have hl1 := hlen_eq HM.out.heap
      have HL1 := Lib.hid hl1
      clear kpop hl1 KLEN
      go_wp2_with fail
      refine KPOP.out.mono ?_
      rintro e w3 ⟨a, g, x, L2, rfl, hg0, hpm, am3, fr3⟩
      obtain ⟨hx0, hx1⟩ := (HG.out.ids (a, g, x) (hpm.mem_iff.1 (by simp))).1
      simp only at hx0 hx1
      obtain ⟨x, rfl⟩ := Int.eq_ofNat_of_zero_le hx0
      have hxn : x < F.n := by omega
      have is3 := HIS.out.fr fr3
      have frr := HFR.out.trans fr3
      have HPM := Lib.hid hpm
      clear hpm hg0 fr3 hx0 hx1 KPOP z10 zp
      go_upto_region 3 with fail
      have bA : Below w3.heap.size w3 (w3.alloc (.cells #[.int .i64 a, .int .i64 g, .int .i64 x] 101)) := (Below.refl _ _).alloc (Nat.le_refl _) _
      have am4 := am3.keep bA
      have is4 := is3.keep bA
      have fr4 := frr.below bA
      have hbx := heap_alloc_new w3 (.cells #[.int .i64 a, .int .i64 g, .int .i64 x] 101)
      clear bA am3 is3 frr
      generalize w3.alloc (.cells #[.int .i64 a, .int .i64 g, .int .i64 x] 101) = w4 at am4 is4 fr4 hbx ⊢
      generalize w3.heap.size = X at hbx ⊢
      obtain ⟨_, ⟨_, _, z8, _, _, _, _⟩, zp⟩ := am4.zs
      obtain ⟨c1, _⟩ := am4.cellD hxn
      obtain ⟨i1, i2⟩ := own_atG false HG.out.len is4.own hxn
      have x2 := blk_cell hbx 2
      simp only [List.getElem?_toArray, List.getElem?_cons_zero, List.getElem?_cons_succ] at x2
      have zx : (x : Int) < (F.n : Int) := by omega
      have HM4 := Lib.hid am4
      have HI4 := Lib.hid is4
      have HF4 := Lib.hid fr4
      clear am4 is4 fr4 hbx
      generalize hdd : db s.dn (x : Int) = dd at *
      have HDD := Lib.hid hdd
      clear hdd
      cases dd with
      | true =>
        have hg5 := HG.out.skip HPM.out HDD.out
        have HG5 := Lib.hid hg5
        clear hg5
        go_quiet (fail)
        have am5 := HM4.out.keep (below_drewN (Below.refl _ _) nq)
        have is5 := HI4.out.keep (below_drewN (Below.refl _ _) nq)
        have fr5 := HF4.out.drewN nq
        have hl9 := hlen_eq am5.heap
        have HM5 := Lib.hid am5
        have HI5 := Lib.hid is5
        have HF5 := Lib.hid fr5
        have HL9 := Lib.hid hl9
        clear am5 is5 fr5 hl9
        go_wp2
        go_roundw
        case rel => exact ⟨_, B, HM5, HF5, HI5, HG5, Lib.hid ⟨HY.out.1, HY.out.2.1, by show k ≤ 100000000; have := HY.out.2.2; rw [HMM.out] at this; omega⟩⟩
        case measure => rw [HL9.out, HL1.out, HMM.out]; exact Nat.lt_succ_self _
      | false =>
        have hg5 := HG.out.mark HPM.out HDD.out rfl
        have HG5 := Lib.hid hg5
        clear hg5
        go_quiet (fail)
        have am5 := (HM4.out.keep (below_drewN (Below.refl _ _) nq)).far (p := ⟨w.heap.size, x, none⟩) HI4.out.no (.bool true)
        have is5 : Is ((w4.drewN nq).setCell ⟨w.heap.size, x, none⟩ (.bool true)) w.heap.size w.heap.size P F (Y'.heap' Y'.Ah k Y'.ch L2) (B.set x true) := ⟨own_setG HG.out.len (HI4.out.keep (below_drewN (Below.refl _ _) nq)).own x hxn true, HI4.out.no⟩
        have fr5 := (HF4.out.drewN nq).set (p := ⟨w.heap.size, x, none⟩) (.inr (Nat.le_refl _)) (.bool true)
        have hl9 := hlen_eq am5.heap
        have HM5 := Lib.hid am5
        have HI5 := Lib.hid is5
        have HF5 := Lib.hid fr5
        have HL9 := Lib.hid hl9
        have zgi := HI4.out.lt
        clear am5 is5 fr5 hl9
        go_wp2
        go_roundw
        case rel => exact ⟨_, _, HM5, HF5, HI5, HG5, Lib.hid ⟨HY.out.1, HY.out.2.1, by show k ≤ 100000000; have := HY.out.2.2; rw [HMM.out] at this; omega⟩⟩
        case measure => rw [HL9.out, HL1.out, HMM.out]; exact Nat.lt_succ_self _
end
end Go.Proofs.Ytpoolpaagbeokaa.Ara
