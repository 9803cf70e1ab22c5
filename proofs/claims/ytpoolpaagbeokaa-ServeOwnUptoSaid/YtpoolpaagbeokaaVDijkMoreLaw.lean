/- Plain facts on nets: no Go in sight. -/
/- Plain facts on Bellman and Ford's relaxing: no Go in sight. -/
/- Plain facts on Dijkstra's running: no Go in sight. -/
/- Plain facts on one edge more: no Go in sight. -/
import Derived.RowKit
namespace Go.Proofs.Ytpoolpaagbeokaa.NetLaw
set_option linter.unusedSimpArgs false
set_option linter.unusedVariables false
/-- an edge: from, to, cost -/
abbrev E := Int × Int × Int
def endsBad (N : Int) (e : E) : Prop := e.1 < 0 ∨ N ≤ e.1 ∨ e.2.1 < 0 ∨ N ≤ e.2.1
def costBad (e : E) : Prop := e.2.2 < -10000 ∨ 10000 < e.2.2
instance (N : Int) (e : E) : Decidable (endsBad N e) := by unfold endsBad; infer_instance
instance (e : E) : Decidable (costBad e) := by unfold costBad; infer_instance
/-- the first fault of the edges -/
def chkE (N : Int) : List E → Int
  | [] => 0
  | e :: r => if endsBad N e then 1 else if costBad e then 4 else chkE N r
/-- what Check answers -/
def chk (N : Int) (l : List E) : Int := if N < 1 ∨ 64 < N then 1 else if 600 < l.length then 2 else chkE N l
theorem chkE_drop (N : Int) (l : List E) (k : Nat) (h : k < l.length) : chkE N (l.drop k) = if endsBad N l[k] then 1 else if costBad l[k] then 4 else chkE N (l.drop (k + 1)) := by
  rw [List.drop_eq_getElem_cons h]; rfl
theorem chkE_zero {N : Int} {l : List E} : chkE N l = 0 ↔ ∀ e ∈ l, ¬ endsBad N e ∧ ¬ costBad e := by
  induction l with
  | nil => simp [chkE]
  | cons e r ih =>
    unfold chkE
    by_cases h1 : endsBad N e
    · simp [h1]
    · by_cases h2 : costBad e
      · simp [h1, h2]
      · rw [if_neg h1, if_neg h2, ih]; simp [h1, h2]
/-- a right net -/
structure Good (N : Int) (l : List E) : Prop where
  lo : 1 ≤ N
  hi : N ≤ 64
  len : l.length ≤ 600
  ends : ∀ e ∈ l, 0 ≤ e.1 ∧ e.1 < N ∧ 0 ≤ e.2.1 ∧ e.2.1 < N
  cost : ∀ e ∈ l, -10000 ≤ e.2.2 ∧ e.2.2 ≤ 10000
theorem chk_zero {N : Int} {l : List E} : chk N l = 0 ↔ Good N l := by
  unfold chk
  constructor
  · intro h
    split at h
    · omega
    · split at h
      · omega
      · rw [chkE_zero] at h
        refine ⟨by omega, by omega, by omega, fun e he => ?_, fun e he => ?_⟩
        · have := (h e he).1; unfold endsBad at this; omega
        · have := (h e he).2; unfold costBad at this; omega
  · intro h
    have h1 := h.lo
    have h2 := h.hi
    have h3 := h.len
    rw [if_neg (by omega), if_neg (by omega), chkE_zero]
    intro e he
    have a := h.ends e he
    have b := h.cost e he
    unfold endsBad costBad
    omega
end Go.Proofs.Ytpoolpaagbeokaa.NetLaw

namespace Go.Proofs.Ytpoolpaagbeokaa.BellLaw
open NetLaw
set_option linter.unusedSimpArgs false
set_option linter.unusedVariables false
def far : Int := 1099511627776
/-- distances, ways back, the last place that gave way -/
abbrev St := List Int × List Int × Int
def dg (D : List Int) (v : Int) : Int := D.getD v.toNat 0
/-- one edge -/
def rx (s : St) (e : Int × Int × Int) : St :=
  if dg s.1 e.1 < far ∧ dg s.1 e.1 + e.2.2 < dg s.1 e.2.1 then (s.1.set e.2.1.toNat (dg s.1 e.1 + e.2.2), s.2.1.set e.2.1.toNat e.1, e.2.1) else s
/-- all edges -/
def pass (l : List (Int × Int × Int)) (s : St) : St := l.foldl rx (s.1, s.2.1, -1)
/-- as many times, or until nothing gives way -/
def relax (l : List (Int × Int × Int)) : Nat → St → St
  | 0, s => s
  | k + 1, s => if (pass l s).2.2 < 0 then pass l s else relax l k (pass l s)
theorem fold_still {l : List (Int × Int × Int)} (ht : ∀ e ∈ l, 0 ≤ e.2.1) (s : St) (h : (l.foldl rx s).2.2 < 0) : l.foldl rx s = s ∧ ∀ e ∈ l, ¬ (dg s.1 e.1 < far ∧ dg s.1 e.1 + e.2.2 < dg s.1 e.2.1) := by
  induction l generalizing s with
  | nil => exact ⟨rfl, by simp⟩
  | cons e r ih =>
    rw [List.foldl_cons] at h ⊢
    obtain ⟨h1, h2⟩ := ih (fun x hx => ht x (List.mem_cons_of_mem _ hx)) _ h
    rw [h1] at h ⊢
    have he := ht e (List.mem_cons_self ..)
    by_cases hc : dg s.1 e.1 < far ∧ dg s.1 e.1 + e.2.2 < dg s.1 e.2.1
    · rw [rx, if_pos hc] at h
      simp only at h
      omega
    · have hs : rx s e = s := by rw [rx, if_neg hc]
      rw [hs] at h2 ⊢
      refine ⟨rfl, fun x hx => ?_⟩
      rcases List.mem_cons.1 hx with rfl | hx
      · exact hc
      · exact h2 x hx
/-- a walk and its cost -/
inductive Wk (l : List (Int × Int × Int)) (fr : Int) : Int → Int → Prop
  | here : Wk l fr fr 0
  | step {u d : Int} {e : Int × Int × Int} : Wk l fr u d → e ∈ l → e.1 = u → Wk l fr e.2.1 (d + e.2.2)
theorem dg_set {D : List Int} {t v x : Int} (ht : 0 ≤ t) (htl : t < D.length) (hv : 0 ≤ v) : dg (D.set t.toNat x) v = if v = t then x else dg D v := by
  unfold dg
  rw [List.getD_eq_getElem?_getD, List.getD_eq_getElem?_getD]
  by_cases e : v = t
  · subst e
    rw [if_pos rfl, List.getElem?_set_self (by omega)]
    rfl
  · rw [if_neg e, List.getElem?_set_ne (by omega)]
/-- what holds all along -/
structure J (N : Int) (l : List (Int × Int × Int)) (fr : Int) (D : List Int) : Prop where
  len : (D.length : Int) = N
  hi : ∀ v, 0 ≤ v → v < N → dg D v ≤ far
  start : dg D fr ≤ 0
  wk : ∀ v, 0 ≤ v → v < N → dg D v < far → Wk l fr v (dg D v)
  back : ∀ v, 0 ≤ v → v < N → v ≠ fr → dg D v < far → ∃ e ∈ l, e.2.1 = v ∧ dg D e.1 < far ∧ dg D e.1 + e.2.2 ≤ dg D v
theorem J.rx_ {N fr : Int} {l : List (Int × Int × Int)} {s : St} {e : Int × Int × Int} (h : J N l fr s.1) (he : e ∈ l) (hends : ∀ e ∈ l, 0 ≤ e.1 ∧ e.1 < N ∧ 0 ≤ e.2.1 ∧ e.2.1 < N) (hfr : 0 ≤ fr) : J N l fr (rx s e).1 := by
  unfold rx
  by_cases hc : dg s.1 e.1 < far ∧ dg s.1 e.1 + e.2.2 < dg s.1 e.2.1
  · rw [if_pos hc]
    show J N l fr (s.1.set e.2.1.toNat (dg s.1 e.1 + e.2.2))
    obtain ⟨a0, a1, a2, a3⟩ := hends e he
    have hl := h.len
    have hs := fun v hv => dg_set (D := s.1) (t := e.2.1) (v := v) (x := dg s.1 e.1 + e.2.2) a2 (by omega) hv
    have hle : ∀ v, 0 ≤ v → dg (s.1.set e.2.1.toNat (dg s.1 e.1 + e.2.2)) v ≤ dg s.1 v := fun v hv => by
      rw [hs v hv]; split
      · rename_i h; subst h; omega
      · exact Int.le_refl _
    refine ⟨by rw [List.length_set]; exact hl, fun v v0 v1 => Int.le_trans (hle v v0) (h.hi v v0 v1), Int.le_trans (hle fr hfr) h.start, fun v v0 v1 hv => ?_, fun v v0 v1 hvf hv => ?_⟩
    · rw [hs v v0]
      split
      · rename_i hvt
        subst hvt
        exact Wk.step (h.wk e.1 a0 a1 hc.1) he rfl
      · rename_i hvt
        rw [hs v v0, if_neg hvt] at hv
        exact h.wk v v0 v1 hv
    · by_cases hvt : v = e.2.1
      · refine ⟨e, he, hvt.symm, Int.lt_of_le_of_lt (hle _ a0) hc.1, ?_⟩
        have := hle e.1 a0
        rw [hs v v0, if_pos hvt]
        omega
      · rw [hs v v0, if_neg hvt] at hv ⊢
        obtain ⟨x, hx, x1, x2, x3⟩ := h.back v v0 v1 hvf hv
        have := hle x.1 (hends x hx).1
        exact ⟨x, hx, x1, by omega, by omega⟩
  · rw [if_neg hc]; exact h
theorem J.fold {N fr : Int} {l : List (Int × Int × Int)} (hends : ∀ e ∈ l, 0 ≤ e.1 ∧ e.1 < N ∧ 0 ≤ e.2.1 ∧ e.2.1 < N) (hfr : 0 ≤ fr) (r : List (Int × Int × Int)) (hr : ∀ e ∈ r, e ∈ l) (s : St) (h : J N l fr s.1) : J N l fr (r.foldl rx s).1 := by
  induction r generalizing s with
  | nil => exact h
  | cons e r ih =>
    rw [List.foldl_cons]
    exact ih (fun x hx => hr x (List.mem_cons_of_mem _ hx)) _ (h.rx_ (hr e (List.mem_cons_self ..)) hends hfr)
theorem J.relax_ {N fr : Int} {l : List (Int × Int × Int)} (hends : ∀ e ∈ l, 0 ≤ e.1 ∧ e.1 < N ∧ 0 ≤ e.2.1 ∧ e.2.1 < N) (hfr : 0 ≤ fr) (k : Nat) (s : St) (h : J N l fr s.1) : J N l fr (relax l k s).1 := by
  induction k generalizing s with
  | zero => exact h
  | succ k ih =>
    have hp : J N l fr (pass l s).1 := J.fold hends hfr l (fun _ he => he) _ h
    rw [relax]
    split
    · exact hp
    · exact ih _ hp
/-- where the rounds end with nothing changed, no edge gives way -/
theorem relax_still {l : List (Int × Int × Int)} (ht : ∀ e ∈ l, 0 ≤ e.2.1) (k : Nat) (hk : 0 < k) (s : St) (h : (relax l k s).2.2 < 0) : ∀ e ∈ l, ¬ (dg (relax l k s).1 e.1 < far ∧ dg (relax l k s).1 e.1 + e.2.2 < dg (relax l k s).1 e.2.1) := by
  induction k generalizing s with
  | zero => omega
  | succ k ih =>
    rw [relax] at h ⊢
    split at h
    · rename_i hp
      rw [if_pos hp]
      obtain ⟨h1, h2⟩ := fold_still ht (s.1, s.2.1, -1) hp
      have : pass l s = (s.1, s.2.1, -1) := h1
      rw [this]
      exact h2
    · rename_i hp
      rw [if_neg hp]
      rcases Nat.eq_zero_or_pos k with rfl | hk'
      · rw [relax] at h; exact absurd h hp
      · exact ih hk' _ h
/-- how far from 0 a reached value lies -/
def Bd (N : Int) (D : List Int) (C : Int) : Prop := ∀ v, 0 ≤ v → v < N → dg D v < far → -C ≤ dg D v ∧ dg D v ≤ C
theorem walk_le {N fr C : Int} {l : List (Int × Int × Int)} {D : List Int} (h : J N l fr D) (hends : ∀ e ∈ l, 0 ≤ e.1 ∧ e.1 < N ∧ 0 ≤ e.2.1 ∧ e.2.1 < N) (hcost : ∀ e ∈ l, -10000 ≤ e.2.2 ∧ e.2.2 ≤ 10000) (hb : Bd N D C) (hC : C + 10000 < far) (hfr : 0 ≤ fr) (hfr2 : fr < N)
    (hst : ∀ e ∈ l, ¬ (dg D e.1 < far ∧ dg D e.1 + e.2.2 < dg D e.2.1)) {v d : Int} (hw : Wk l fr v d) : (0 ≤ v ∧ v < N) ∧ dg D v < far ∧ dg D v ≤ dg D fr + d := by
  induction hw with
  | here => exact ⟨⟨hfr, hfr2⟩, by have := h.start; unfold far; omega, by omega⟩
  | step hu he hf ih =>
    subst hf
    obtain ⟨⟨u0, u1⟩, u2, u3⟩ := ih
    have a := hends _ he
    have b := hcost _ he
    have c := hb _ u0 u1 u2
    have s := hst _ he
    exact ⟨⟨a.2.2.1, a.2.2.2⟩, by omega, by omega⟩
theorem tight {N fr C : Int} {l : List (Int × Int × Int)} {D : List Int} (h : J N l fr D) (hends : ∀ e ∈ l, 0 ≤ e.1 ∧ e.1 < N ∧ 0 ≤ e.2.1 ∧ e.2.1 < N) (hcost : ∀ e ∈ l, -10000 ≤ e.2.2 ∧ e.2.2 ≤ 10000) (hb : Bd N D C) (hC : C + 10000 < far) (hfr : 0 ≤ fr) (hfr2 : fr < N)
    (hst : ∀ e ∈ l, ¬ (dg D e.1 < far ∧ dg D e.1 + e.2.2 < dg D e.2.1)) :
    dg D fr = 0 ∧ ∀ v, 0 ≤ v → v < N → v ≠ fr → dg D v < far → ∃ e ∈ l, e.2.1 = v ∧ dg D e.1 < far ∧ dg D e.1 + e.2.2 = dg D v := by
  have hs := h.start
  have hw := h.wk fr hfr hfr2 (by unfold far; omega)
  have hz := (walk_le h hends hcost hb hC hfr hfr2 hst hw).2.2
  refine ⟨by omega, fun v v0 v1 hv hd => ?_⟩
  obtain ⟨e, he, e1, e2, e3⟩ := h.back v v0 v1 hv hd
  have := hst e he
  subst e1
  exact ⟨e, he, rfl, e2, by omega⟩
theorem Bd.more {N C C' : Int} {D : List Int} (h : Bd N D C) (hC : C ≤ C') : Bd N D C' := fun v v0 v1 hv => by have := h v v0 v1 hv; omega
theorem Bd.rx_ {N C : Int} {s : St} {e : Int × Int × Int} (h : Bd N s.1 C) (hl : (s.1.length : Int) = N) (he : 0 ≤ e.1 ∧ e.1 < N ∧ 0 ≤ e.2.1 ∧ e.2.1 < N) (hc : -10000 ≤ e.2.2 ∧ e.2.2 ≤ 10000) : Bd N (rx s e).1 (C + 10000) ∧ ((rx s e).1.length : Int) = N ∧ (rx s e).2.1.length = s.2.1.length := by
  unfold rx
  by_cases hh : dg s.1 e.1 < far ∧ dg s.1 e.1 + e.2.2 < dg s.1 e.2.1
  · rw [if_pos hh]
    refine ⟨fun v v0 v1 hv => ?_, by simpa using hl, by simp⟩
    have hs := dg_set (D := s.1) (t := e.2.1) (v := v) (x := dg s.1 e.1 + e.2.2) he.2.2.1 (by omega) v0
    simp only at hv ⊢
    rw [hs] at hv ⊢
    split at hv
    · rename_i hvt
      rw [if_pos hvt]
      have := h e.1 he.1 he.2.1 hh.1
      omega
    · rename_i hvt
      rw [if_neg hvt]
      have := h v v0 v1 hv
      omega
  · rw [if_neg hh]
    exact ⟨h.more (by omega), hl, rfl⟩
theorem Bd.fold {N : Int} {l : List (Int × Int × Int)} (hends : ∀ e ∈ l, 0 ≤ e.1 ∧ e.1 < N ∧ 0 ≤ e.2.1 ∧ e.2.1 < N) (hcost : ∀ e ∈ l, -10000 ≤ e.2.2 ∧ e.2.2 ≤ 10000) (r : List (Int × Int × Int)) (hr : ∀ e ∈ r, e ∈ l) (C : Int) (s : St) (h : Bd N s.1 C) (hl : (s.1.length : Int) = N) :
    Bd N (r.foldl rx s).1 (C + r.length * 10000) ∧ ((r.foldl rx s).1.length : Int) = N ∧ (r.foldl rx s).2.1.length = s.2.1.length := by
  induction r generalizing s C with
  | nil => exact ⟨h.more (by simp), hl, rfl⟩
  | cons e r ih =>
    rw [List.foldl_cons]
    obtain ⟨b1, b2, b3⟩ := h.rx_ hl (hends e (hr e (List.mem_cons_self ..))) (hcost e (hr e (List.mem_cons_self ..)))
    obtain ⟨c1, c2, c3⟩ := ih (fun x hx => hr x (List.mem_cons_of_mem _ hx)) _ _ b1 b2
    exact ⟨c1.more (by rw [List.length_cons]; omega), c2, c3.trans b3⟩
end Go.Proofs.Ytpoolpaagbeokaa.BellLaw

namespace Go.Proofs.Ytpoolpaagbeokaa.DijkLaw
open NetLaw BellLaw
set_option linter.unusedSimpArgs false
set_option linter.unusedVariables false
/-- what holds all along: D what it costs so far, L what waits (cost, place), dn who is done, cur the cost that was come to, todo the edges still to be looked at, b how many may wait -/
structure Inv (N fr : Int) (l : List E) (D : List Int) (L : List (Int × Int)) (dn : List Int) (cur : Int) (todo : List E) (b : Nat) : Prop where
  len : (D.length : Int) = N
  lo : ∀ v, 0 ≤ v → v < N → 0 ≤ dg D v ∧ dg D v ≤ far
  st : dg D fr = 0
  wk : ∀ v, 0 ≤ v → v < N → dg D v < far → Wk l fr v (dg D v)
  ent : ∀ p ∈ L, 0 ≤ p.2 ∧ p.2 < N ∧ dg D p.2 ≤ p.1 ∧ cur ≤ p.1 ∧ (p.2 ∈ dn → dg D p.2 < p.1)
  nd : L.Nodup
  pend : ∀ v, 0 ≤ v → v < N → dg D v < far → v ∉ dn → (dg D v, v) ∈ L
  dnle : ∀ v ∈ dn, 0 ≤ v ∧ v < N ∧ dg D v ≤ cur
  dnnd : dn.Nodup
  rel : ∀ e ∈ l, e.1 ∈ dn → e ∈ todo ∨ dg D e.2.1 ≤ dg D e.1 + e.2.2
  cnt : L.length ≤ b
section
variable {N fr : Int} {l : List E} {D : List Int} {L L' : List (Int × Int)} {dn : List Int} {cur k v : Int} {todo : List E} {b : Nat}
/-- what was taken is dearer than it need be -/
theorem Inv.skip (h : Inv N fr l D L dn cur [] b) (hp : ((k, v) :: L').Perm L) (hmin : ∀ q ∈ L, k ≤ q.1) (hk : dg D v < k) : Inv N fr l D L' dn k [] b := by
  have hck : cur ≤ k := (h.ent (k, v) (hp.mem_iff.1 (List.mem_cons_self ..))).2.2.2.1
  refine ⟨h.len, h.lo, h.st, h.wk, fun q hq => ?_, (List.nodup_cons.1 (hp.nodup_iff.2 h.nd)).2, fun u u0 u1 hu hd => ?_, fun u hu => ?_, h.dnnd, h.rel, ?_⟩
  · have hq' := hp.mem_iff.1 (List.mem_cons_of_mem _ hq)
    obtain ⟨a, b, c, _, e⟩ := h.ent q hq'
    exact ⟨a, b, c, hmin q hq', e⟩
  · rcases List.mem_cons.1 (hp.mem_iff.2 (h.pend u u0 u1 hu hd)) with e | e
    · injection e with e1 e2
      subst e2
      omega
    · exact e
  · obtain ⟨a, b, c⟩ := h.dnle u hu
    exact ⟨a, b, by omega⟩
  · have := hp.length_eq
    have := h.cnt
    simp at *
    omega
/-- what was taken is what it costs -/
theorem Inv.take (h : Inv N fr l D L dn cur [] b) (hp : ((k, v) :: L').Perm L) (hmin : ∀ q ∈ L, k ≤ q.1) (hk : ¬ dg D v < k) : dg D v = k ∧ 0 ≤ v ∧ v < N ∧ v ∉ dn ∧ (∀ todo : List E, (∀ e ∈ l, e.1 = v → e ∈ todo) → Inv N fr l D L' (v :: dn) k todo b) := by
  obtain ⟨v0, v1, h2, hck, h4⟩ := h.ent (k, v) (hp.mem_iff.1 (List.mem_cons_self ..))
  simp only at v0 v1 h2 hck h4
  have hdv : dg D v = k := by omega
  have hnd : v ∉ dn := fun hv => by have := h4 hv; omega
  have hnd2 := List.nodup_cons.1 (hp.nodup_iff.2 h.nd)
  refine ⟨hdv, v0, v1, hnd, fun todo ht => ⟨h.len, h.lo, h.st, h.wk, fun q hq => ?_, hnd2.2, fun u u0 u1 hu hd => ?_, fun u hu => ?_, List.nodup_cons.2 ⟨hnd, h.dnnd⟩, fun e he hd => ?_, ?_⟩⟩
  · have hq' := hp.mem_iff.1 (List.mem_cons_of_mem _ hq)
    obtain ⟨a, b, c, _, e⟩ := h.ent q hq'
    refine ⟨a, b, c, hmin q hq', fun hm => ?_⟩
    rcases List.mem_cons.1 hm with e1 | e1
    · have hne : q.1 ≠ k := fun e2 => hnd2.1 (by
        have : q = (k, v) := Prod.ext e2 e1
        rw [← this]; exact hq)
      rw [e1] at c ⊢
      omega
    · exact e e1
  · have hd' : u ∉ dn := fun x => hd (List.mem_cons_of_mem _ x)
    rcases List.mem_cons.1 (hp.mem_iff.2 (h.pend u u0 u1 hu hd')) with e | e
    · injection e with e1 e2
      exact absurd (by rw [e2]; exact List.mem_cons_self ..) hd
    · exact e
  · rcases List.mem_cons.1 hu with e | e
    · subst e; exact ⟨v0, v1, by omega⟩
    · obtain ⟨a, b, c⟩ := h.dnle u e
      exact ⟨a, b, by omega⟩
  · rcases List.mem_cons.1 hd with e1 | e1
    · exact .inl (ht e he e1)
    · rcases h.rel e he e1 with e2 | e2
      · cases e2
      · exact .inr e2
  · have := hp.length_eq
    have := h.cnt
    simp at *
    omega
/-- an edge that gives way -/
theorem Inv.give {e : E} {u : Int} (h : Inv N fr l D L dn cur (e :: todo) b) (hu : e.1 = u) (hud : u ∈ dn) (hdu : dg D u = cur) (he : e ∈ l) (hc : 0 ≤ e.2.2) (ht : 0 ≤ e.2.1 ∧ e.2.1 < N) (hfr : 0 ≤ fr) (hlt : cur + e.2.2 < dg D e.2.1) (hp : L'.Perm ((cur + e.2.2, e.2.1) :: L)) :
    Inv N fr l (D.set e.2.1.toNat (cur + e.2.2)) L' dn cur todo (b + 1) := by
  have hl := h.len
  have hs := fun v hv => dg_set (D := D) (t := e.2.1) (v := v) (x := cur + e.2.2) ht.1 (by omega) hv
  obtain ⟨u0, u1, _⟩ := h.dnle u hud
  have hcur : 0 ≤ cur := by have := (h.lo u u0 u1).1; omega
  have hfar := (h.lo e.2.1 ht.1 ht.2).2
  have htd : e.2.1 ∉ dn := fun hd => by have := (h.dnle _ hd).2.2; omega
  have hsame : ∀ v, v ∈ dn → dg (D.set e.2.1.toNat (cur + e.2.2)) v = dg D v := fun v hv => by
    have hne : ¬ v = e.2.1 := fun x => htd (by rw [← x]; exact hv)
    rw [hs v (h.dnle v hv).1, if_neg hne]
  have hle : ∀ v, 0 ≤ v → dg (D.set e.2.1.toNat (cur + e.2.2)) v ≤ dg D v := fun v hv => by
    rw [hs v hv]; split
    · rename_i x; subst x; omega
    · exact Int.le_refl _
  refine ⟨by rw [List.length_set]; exact hl, fun v v0 v1 => ?_, ?_, fun v v0 v1 hv => ?_, fun q hq => ?_, ?_, fun v v0 v1 hv hd => ?_, fun v hv => ?_, h.dnnd, fun x hx hd => ?_, ?_⟩
  · rw [hs v v0]; split
    · omega
    · exact h.lo v v0 v1
  · rw [hs fr hfr, if_neg (fun x => by have := h.st; rw [x] at this; omega)]
    exact h.st
  · rw [hs v v0] at hv ⊢
    split
    · rename_i x
      subst x
      have hw := h.wk u u0 u1 (by omega)
      rw [hdu] at hw
      exact Wk.step hw he hu
    · rename_i x
      rw [if_neg x] at hv
      exact h.wk v v0 v1 hv
  · rcases List.mem_cons.1 (hp.mem_iff.1 hq) with x | x
    · subst x
      refine ⟨ht.1, ht.2, ?_, by simp only; omega, fun hd => absurd hd htd⟩
      simp only
      rw [hs _ ht.1, if_pos rfl]
      exact Int.le_refl _
    · obtain ⟨a, b, c, d, f⟩ := h.ent q x
      refine ⟨a, b, Int.le_trans (hle _ a) c, d, fun hd => ?_⟩
      rw [hsame _ hd]
      exact f hd
  · rw [hp.nodup_iff, List.nodup_cons]
    refine ⟨fun hm => ?_, h.nd⟩
    have := (h.ent _ hm).2.2.1
    simp only at this
    omega
  · rw [hs v v0] at hv ⊢
    rw [hp.mem_iff]
    split
    · rename_i x
      subst x
      exact List.mem_cons_self ..
    · rename_i x
      rw [if_neg x] at hv
      exact List.mem_cons_of_mem _ (h.pend v v0 v1 hv hd)
  · rw [hsame v hv]
    exact h.dnle v hv
  · have hx2 := hsame _ hd
    by_cases hxt : x.2.1 = e.2.1
    · rcases h.rel x hx hd with y | y
      · rcases List.mem_cons.1 y with z | z
        · subst z
          right
          rw [hx2, hs _ ht.1, if_pos rfl, hu, hdu]
          exact Int.le_refl _
        · exact .inl z
      · right
        rw [hx2]
        have := hle x.2.1 (by rw [hxt]; exact ht.1)
        omega
    · rcases h.rel x hx hd with y | y
      · rcases List.mem_cons.1 y with z | z
        · subst z; exact absurd rfl hxt
        · exact .inl z
      · right
        rw [hx2]
        by_cases x0 : 0 ≤ x.2.1
        · have := hle x.2.1 x0; omega
        · have e1 : dg (D.set e.2.1.toNat (cur + e.2.2)) x.2.1 ≤ dg D x.2.1 := by
            unfold dg
            have e2 : x.2.1.toNat = (0 : Int).toNat := by omega
            rw [e2]
            exact hle 0 (Int.le_refl _)
          omega
  · have := hp.length_eq
    have := h.cnt
    simp at *
    omega
/-- an edge that does not -/
theorem Inv.stay {e : E} {u : Int} (h : Inv N fr l D L dn cur (e :: todo) b) (hu : e.1 = u) (hdu : dg D u = cur) (hge : ¬ cur + e.2.2 < dg D e.2.1) : Inv N fr l D L dn cur todo (b + 1) :=
  ⟨h.len, h.lo, h.st, h.wk, h.ent, h.nd, h.pend, h.dnle, h.dnnd, fun x hx hd => by
    rcases h.rel x hx hd with y | y
    · rcases List.mem_cons.1 y with z | z
      · subst z
        right
        rw [hu, hdu]
        omega
      · exact .inl z
    · exact .inr y, Nat.le_succ_of_le h.cnt⟩
/-- what it costs from fr -/
structure Sh (N fr : Int) (l : List E) (D : List Int) : Prop where
  len : (D.length : Int) = N
  lo : ∀ v, 0 ≤ v → v < N → 0 ≤ dg D v ∧ dg D v ≤ far
  st : dg D fr = 0
  wk : ∀ v, 0 ≤ v → v < N → dg D v < far → Wk l fr v (dg D v)
  still : ∀ e ∈ l, dg D e.1 < far → dg D e.2.1 ≤ dg D e.1 + e.2.2
theorem Inv.fin (h : Inv N fr l D [] dn cur [] b) (hends : ∀ e ∈ l, 0 ≤ e.1 ∧ e.1 < N ∧ 0 ≤ e.2.1 ∧ e.2.1 < N) : Sh N fr l D := by
  refine ⟨h.len, h.lo, h.st, h.wk, fun e he hf => ?_⟩
  obtain ⟨a, b, _, _⟩ := hends e he
  by_cases hd : e.1 ∈ dn
  · rcases h.rel e he hd with x | x
    · cases x
    · exact x
  · have := h.pend e.1 a b hf hd
    cases this
theorem Sh.walk_le (h : Sh N fr l D) (hends : ∀ e ∈ l, 0 ≤ e.1 ∧ e.1 < N ∧ 0 ≤ e.2.1 ∧ e.2.1 < N) {v d : Int} (hw : Wk l fr v d) (hd : d < far) (hc : ∀ e ∈ l, 0 ≤ e.2.2) : dg D v ≤ d := by
  induction hw with
  | here => rw [h.st]; exact Int.le_refl _
  | step hu he hf ih =>
    have c := hc _ he
    have h1 := ih (by omega)
    subst hf
    have := h.still _ he (by omega)
    omega
/-- there is but one answer -/
theorem Sh.unique {D' : List Int} (h : Sh N fr l D) (h' : Sh N fr l D') (hends : ∀ e ∈ l, 0 ≤ e.1 ∧ e.1 < N ∧ 0 ≤ e.2.1 ∧ e.2.1 < N) (hc : ∀ e ∈ l, 0 ≤ e.2.2) : D = D' := by
  have key : ∀ D D', Sh N fr l D → Sh N fr l D' → ∀ v, 0 ≤ v → v < N → dg D v ≤ dg D' v := fun D D' h h' v v0 v1 => by
    by_cases hv : dg D' v < far
    · exact h.walk_le hends (h'.wk v v0 v1 hv) hv hc
    · have := (h.lo v v0 v1).2; omega
  have h1 := h.len
  have h2 := h'.len
  refine List.ext_getElem (by omega) fun i a b => ?_
  have e1 := key D D' h h' i (by omega) (by omega)
  have e2 := key D' D h' h i (by omega) (by omega)
  unfold dg at e1 e2
  simp only [Int.toNat_natCast, List.getD_eq_getElem?_getD, List.getElem?_eq_getElem a, List.getElem?_eq_getElem b, Option.getD_some] at e1 e2
  omega
end
/-- how many edges leave those who are done -/
def outs (l : List E) (dn : List Int) : Nat := l.countP fun e => decide (e.1 ∈ dn)
theorem outs_le (l : List E) (dn : List Int) : outs l dn ≤ l.length := List.countP_le_length
theorem outs_nil (l : List E) : outs l [] = 0 := by
  unfold outs
  rw [List.countP_eq_zero]
  intro e _
  simp
theorem outs_cons (l : List E) (dn : List Int) (v : Int) (h : v ∉ dn) : outs l (v :: dn) = outs l dn + l.countP fun e => decide (e.1 = v) := by
  unfold outs
  induction l with
  | nil => rfl
  | cons e r ih =>
    rw [List.countP_cons, List.countP_cons, List.countP_cons, ih]
    by_cases h1 : e.1 = v
    · have h2 : e.1 ∉ dn := by rw [h1]; exact h
      simp [h1, h]
      omega
    · simp [h1]
      omega
theorem start_inv {N fr : Int} {l : List E} {D : List Int} (hl : (D.length : Int) = N) (h0 : dg D fr = 0) (hf : ∀ v, 0 ≤ v → v < N → v ≠ fr → dg D v = far) (hfr : 0 ≤ fr ∧ fr < N) : Inv N fr l D [(0, fr)] [] 0 [] 1 := by
  refine ⟨hl, fun v v0 v1 => ?_, h0, fun v v0 v1 hv => ?_, fun p hp => ?_, by simp, fun v v0 v1 hv _ => ?_, (fun v hv => by cases hv), List.nodup_nil, (fun e _ hd => by cases hd), by simp⟩
  · by_cases e : v = fr
    · rw [e, h0]; unfold far; omega
    · rw [hf v v0 v1 e]; unfold far; omega
  · by_cases e : v = fr
    · rw [e, h0]; exact Wk.here
    · rw [hf v v0 v1 e] at hv; exact absurd hv (Int.lt_irrefl _)
  · rw [List.mem_singleton] at hp
    subst hp
    exact ⟨hfr.1, hfr.2, by simp only; omega, Int.le_refl _, fun h => by cases h⟩
  · by_cases e : v = fr
    · subst e; rw [h0]; simp
    · rw [hf v v0 v1 e] at hv; exact absurd hv (Int.lt_irrefl _)
end Go.Proofs.Ytpoolpaagbeokaa.DijkLaw

namespace Go.Proofs.Ytpoolpaagbeokaa.DijkMorePlain
open NetLaw BellLaw DijkLaw
set_option linter.unusedSimpArgs false
set_option linter.unusedVariables false
theorem wk_mono {l m : List E} {fr v d : Int} (h : Wk l fr v d) (hs : ∀ e ∈ l, e ∈ m) : Wk m fr v d := by
  induction h with
  | here => exact Wk.here
  | step _ he hf ih => exact Wk.step ih (hs _ he) hf
theorem wk_join {l : List E} {a u v d d' : Int} (h : Wk l a u d) (h' : Wk l u v d') : Wk l a v (d + d') := by
  induction h' with
  | here => rw [Int.add_zero]; exact h
  | step _ he hf ih => rw [← Int.add_assoc]; exact Wk.step ih he hf
/-- what it costs over the edge x -/
def over (D T : List Int) (x : E) (v : Int) : Int := if dg D x.1 < far ∧ dg T v < far then dg D x.1 + x.2.2 + dg T v else far
theorem more {N fr : Int} {l : List E} {x : E} {D M T : List Int} (hD : Sh N fr l D) (hM : Sh N fr (l ++ [x]) M) (hT : Sh N x.2.1 l T)
    (hends : ∀ e ∈ l ++ [x], 0 ≤ e.1 ∧ e.1 < N ∧ 0 ≤ e.2.1 ∧ e.2.1 < N) (hc : ∀ e ∈ l ++ [x], 0 ≤ e.2.2) (v : Int) (v0 : 0 ≤ v) (v1 : v < N) : dg M v = min (dg D v) (over D T x v) := by
  have hx : x ∈ l ++ [x] := by simp
  obtain ⟨a0, a1, b0, b1⟩ := hends x hx
  have hcx := hc x hx
  have hin : ∀ e ∈ l, e ∈ l ++ [x] := fun e he => List.mem_append_left _ he
  have key : ∀ v d, Wk (l ++ [x]) fr v d → d < far → dg D v ≤ d ∨ (dg D x.1 < far ∧ dg T v < far ∧ dg D x.1 + x.2.2 + dg T v ≤ d) := by
    intro v d hw
    induction hw with
    | here => intro _; left; rw [hD.st]; exact Int.le_refl _
    | step hu he hf ih =>
      intro hd
      have hce := hc _ he
      have ih := ih (by omega)
      subst hf
      rcases List.mem_append.1 he with hl | hl
      · rcases ih with h | ⟨h1, h2, h3⟩
        · left
          have := hD.still _ hl (by omega)
          omega
        · right
          have h4 := hT.still _ hl h2
          have h5 := (hD.lo x.1 a0 a1).1
          exact ⟨h1, by omega, by omega⟩
      · rw [List.mem_singleton] at hl
        subst hl
        have hst := hT.st
        have hT0 := (hT.lo _ a0 a1).1
        have hfar : (0 : Int) < far := by unfold far; omega
        right
        rcases ih with h | ⟨h1, h2, h3⟩
        · exact ⟨by omega, by omega, by omega⟩
        · exact ⟨h1, by omega, by omega⟩
  have lM := hM.lo v v0 v1
  have lD := hD.lo v v0 v1
  have lT := hT.lo v v0 v1
  have h1 : dg M v ≤ dg D v := by
    by_cases h : dg D v < far
    · exact hM.walk_le hends (wk_mono (hD.wk v v0 v1 h) hin) h hc
    · omega
  have h2 : dg M v ≤ over D T x v := by
    unfold over
    split
    · rename_i h
      by_cases hw : dg D x.1 + x.2.2 + dg T v < far
      · have w1 := wk_mono (hD.wk x.1 a0 a1 h.1) hin
        have w2 := Wk.step w1 hx rfl
        have w3 := wk_mono (hT.wk v v0 v1 h.2) hin
        exact hM.walk_le hends (wk_join w2 w3) hw hc
      · omega
    · omega
  have h3 : dg D v ≤ dg M v ∨ over D T x v ≤ dg M v := by
    by_cases h : dg M v < far
    · rcases key v _ (hM.wk v v0 v1 h) h with k | ⟨k1, k2, k3⟩
      · exact .inl k
      · right
        unfold over
        rw [if_pos ⟨k1, k2⟩]
        exact k3
    · left; omega
  omega
end Go.Proofs.Ytpoolpaagbeokaa.DijkMorePlain
