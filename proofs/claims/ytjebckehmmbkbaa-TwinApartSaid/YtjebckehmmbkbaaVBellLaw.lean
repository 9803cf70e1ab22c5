/- Plain facts on nets: no Go in sight. -/
/- Plain facts on Bellman and Ford's relaxing: no Go in sight. -/
import Derived.RowKit
namespace Go.Proofs.Ytjebckehmmbkbaa.NetLaw
set_option linter.unusedSimpArgs false
set_option linter.unusedVariables false
/-- an edge: from, to, cost -/
abbrev E := Int × Int × Int
def endsBad (N : Int) (e : E) : Prop := e.1 < 0 ∨ N ≤ e.1 ∨ e.2.1 < 0 ∨ N ≤ e.2.1
def costBad (e : E) : Prop := e.2.2 < -10000 ∨ 10000 < e.2.2
instance (N : Int) (e : E) : Decidable (endsBad N e) := by unfold endsBad; infer_instance
instance (e : E) : Decidable (costBad e) := by unfold costBad; infer_instance
/-- the first fault of the edges -/
def chkE (N : Int) : List E → Int
  | [] => 0
  | e :: r => if endsBad N e then 1 else if costBad e then 4 else chkE N r
/-- what Check answers -/
def chk (N : Int) (l : List E) : Int := if N < 1 ∨ 64 < N then 1 else if 600 < l.length then 2 else chkE N l
theorem chkE_drop (N : Int) (l : List E) (k : Nat) (h : k < l.length) : chkE N (l.drop k) = if endsBad N l[k] then 1 else if costBad l[k] then 4 else chkE N (l.drop (k + 1)) := by
  rw [List.drop_eq_getElem_cons h]; rfl
theorem chkE_zero {N : Int} {l : List E} : chkE N l = 0 ↔ ∀ e ∈ l, ¬ endsBad N e ∧ ¬ costBad e := by
  induction l with
  | nil => simp [chkE]
  | cons e r ih =>
    unfold chkE
    by_cases h1 : endsBad N e
    · simp [h1]
    · by_cases h2 : costBad e
      · simp [h1, h2]
      · rw [if_neg h1, if_neg h2, ih]; simp [h1, h2]
/-- a right net -/
structure Good (N : Int) (l : List E) : Prop where
  lo : 1 ≤ N
  hi : N ≤ 64
  len : l.length ≤ 600
  ends : ∀ e ∈ l, 0 ≤ e.1 ∧ e.1 < N ∧ 0 ≤ e.2.1 ∧ e.2.1 < N
  cost : ∀ e ∈ l, -10000 ≤ e.2.2 ∧ e.2.2 ≤ 10000
theorem chk_zero {N : Int} {l : List E} : chk N l = 0 ↔ Good N l := by
  unfold chk
  constructor
  · intro h
    split at h
    · omega
    · split at h
      · omega
      · rw [chkE_zero] at h
        refine ⟨by omega, by omega, by omega, fun e he => ?_, fun e he => ?_⟩
        · have := (h e he).1; unfold endsBad at this; omega
        · have := (h e he).2; unfold costBad at this; omega
  · intro h
    have h1 := h.lo
    have h2 := h.hi
    have h3 := h.len
    rw [if_neg (by omega), if_neg (by omega), chkE_zero]
    intro e he
    have a := h.ends e he
    have b := h.cost e he
    unfold endsBad costBad
    omega
end Go.Proofs.Ytjebckehmmbkbaa.NetLaw

namespace Go.Proofs.Ytjebckehmmbkbaa.BellLaw
open NetLaw
set_option linter.unusedSimpArgs false
set_option linter.unusedVariables false
def far : Int := 1099511627776
/-- distances, ways back, the last place that gave way -/
abbrev St := List Int × List Int × Int
def dg (D : List Int) (v : Int) : Int := D.getD v.toNat 0
/-- one edge -/
def rx (s : St) (e : Int × Int × Int) : St :=
  if dg s.1 e.1 < far ∧ dg s.1 e.1 + e.2.2 < dg s.1 e.2.1 then (s.1.set e.2.1.toNat (dg s.1 e.1 + e.2.2), s.2.1.set e.2.1.toNat e.1, e.2.1) else s
/-- all edges -/
def pass (l : List (Int × Int × Int)) (s : St) : St := l.foldl rx (s.1, s.2.1, -1)
/-- as many times, or until nothing gives way -/
def relax (l : List (Int × Int × Int)) : Nat → St → St
  | 0, s => s
  | k + 1, s => if (pass l s).2.2 < 0 then pass l s else relax l k (pass l s)
theorem fold_still {l : List (Int × Int × Int)} (ht : ∀ e ∈ l, 0 ≤ e.2.1) (s : St) (h : (l.foldl rx s).2.2 < 0) : l.foldl rx s = s ∧ ∀ e ∈ l, ¬ (dg s.1 e.1 < far ∧ dg s.1 e.1 + e.2.2 < dg s.1 e.2.1) := by
  induction l generalizing s with
  | nil => exact ⟨rfl, by simp⟩
  | cons e r ih =>
    rw [List.foldl_cons] at h ⊢
    obtain ⟨h1, h2⟩ := ih (fun x hx => ht x (List.mem_cons_of_mem _ hx)) _ h
    rw [h1] at h ⊢
    have he := ht e (List.mem_cons_self ..)
    by_cases hc : dg s.1 e.1 < far ∧ dg s.1 e.1 + e.2.2 < dg s.1 e.2.1
    · rw [rx, if_pos hc] at h
      simp only at h
      omega
    · have hs : rx s e = s := by rw [rx, if_neg hc]
      rw [hs] at h2 ⊢
      refine ⟨rfl, fun x hx => ?_⟩
      rcases List.mem_cons.1 hx with rfl | hx
      · exact hc
      · exact h2 x hx
/-- a walk and its cost -/
inductive Wk (l : List (Int × Int × Int)) (fr : Int) : Int → Int → Prop
  | here : Wk l fr fr 0
  | step {u d : Int} {e : Int × Int × Int} : Wk l fr u d → e ∈ l → e.1 = u → Wk l fr e.2.1 (d + e.2.2)
theorem dg_set {D : List Int} {t v x : Int} (ht : 0 ≤ t) (htl : t < D.length) (hv : 0 ≤ v) : dg (D.set t.toNat x) v = if v = t then x else dg D v := by
  unfold dg
  rw [List.getD_eq_getElem?_getD, List.getD_eq_getElem?_getD]
  by_cases e : v = t
  · subst e
    rw [if_pos rfl, List.getElem?_set_self (by omega)]
    rfl
  · rw [if_neg e, List.getElem?_set_ne (by omega)]
/-- what holds all along -/
structure J (N : Int) (l : List (Int × Int × Int)) (fr : Int) (D : List Int) : Prop where
  len : (D.length : Int) = N
  hi : ∀ v, 0 ≤ v → v < N → dg D v ≤ far
  start : dg D fr ≤ 0
  wk : ∀ v, 0 ≤ v → v < N → dg D v < far → Wk l fr v (dg D v)
  back : ∀ v, 0 ≤ v → v < N → v ≠ fr → dg D v < far → ∃ e ∈ l, e.2.1 = v ∧ dg D e.1 < far ∧ dg D e.1 + e.2.2 ≤ dg D v
theorem J.rx_ {N fr : Int} {l : List (Int × Int × Int)} {s : St} {e : Int × Int × Int} (h : J N l fr s.1) (he : e ∈ l) (hends : ∀ e ∈ l, 0 ≤ e.1 ∧ e.1 < N ∧ 0 ≤ e.2.1 ∧ e.2.1 < N) (hfr : 0 ≤ fr) : J N l fr (rx s e).1 := by
  unfold rx
  by_cases hc : dg s.1 e.1 < far ∧ dg s.1 e.1 + e.2.2 < dg s.1 e.2.1
  · rw [if_pos hc]
    show J N l fr (s.1.set e.2.1.toNat (dg s.1 e.1 + e.2.2))
    obtain ⟨a0, a1, a2, a3⟩ := hends e he
    have hl := h.len
    have hs := fun v hv => dg_set (D := s.1) (t := e.2.1) (v := v) (x := dg s.1 e.1 + e.2.2) a2 (by omega) hv
    have hle : ∀ v, 0 ≤ v → dg (s.1.set e.2.1.toNat (dg s.1 e.1 + e.2.2)) v ≤ dg s.1 v := fun v hv => by
      rw [hs v hv]; split
      · rename_i h; subst h; omega
      · exact Int.le_refl _
    refine ⟨by rw [List.length_set]; exact hl, fun v v0 v1 => Int.le_trans (hle v v0) (h.hi v v0 v1), Int.le_trans (hle fr hfr) h.start, fun v v0 v1 hv => ?_, fun v v0 v1 hvf hv => ?_⟩
    · rw [hs v v0]
      split
      · rename_i hvt
        subst hvt
        exact Wk.step (h.wk e.1 a0 a1 hc.1) he rfl
      · rename_i hvt
        rw [hs v v0, if_neg hvt] at hv
        exact h.wk v v0 v1 hv
    · by_cases hvt : v = e.2.1
      · refine ⟨e, he, hvt.symm, Int.lt_of_le_of_lt (hle _ a0) hc.1, ?_⟩
        have := hle e.1 a0
        rw [hs v v0, if_pos hvt]
        omega
      · rw [hs v v0, if_neg hvt] at hv ⊢
        obtain ⟨x, hx, x1, x2, x3⟩ := h.back v v0 v1 hvf hv
        have := hle x.1 (hends x hx).1
        exact ⟨x, hx, x1, by omega, by omega⟩
  · rw [if_neg hc]; exact h
theorem J.fold {N fr : Int} {l : List (Int × Int × Int)} (hends : ∀ e ∈ l, 0 ≤ e.1 ∧ e.1 < N ∧ 0 ≤ e.2.1 ∧ e.2.1 < N) (hfr : 0 ≤ fr) (r : List (Int × Int × Int)) (hr : ∀ e ∈ r, e ∈ l) (s : St) (h : J N l fr s.1) : J N l fr (r.foldl rx s).1 := by
  induction r generalizing s with
  | nil => exact h
  | cons e r ih =>
    rw [List.foldl_cons]
    exact ih (fun x hx => hr x (List.mem_cons_of_mem _ hx)) _ (h.rx_ (hr e (List.mem_cons_self ..)) hends hfr)
theorem J.relax_ {N fr : Int} {l : List (Int × Int × Int)} (hends : ∀ e ∈ l, 0 ≤ e.1 ∧ e.1 < N ∧ 0 ≤ e.2.1 ∧ e.2.1 < N) (hfr : 0 ≤ fr) (k : Nat) (s : St) (h : J N l fr s.1) : J N l fr (relax l k s).1 := by
  induction k generalizing s with
  | zero => exact h
  | succ k ih =>
    have hp : J N l fr (pass l s).1 := J.fold hends hfr l (fun _ he => he) _ h
    rw [relax]
    split
    · exact hp
    · exact ih _ hp
/-- where the rounds end with nothing changed, no edge gives way -/
theorem relax_still {l : List (Int × Int × Int)} (ht : ∀ e ∈ l, 0 ≤ e.2.1) (k : Nat) (hk : 0 < k) (s : St) (h : (relax l k s).2.2 < 0) : ∀ e ∈ l, ¬ (dg (relax l k s).1 e.1 < far ∧ dg (relax l k s).1 e.1 + e.2.2 < dg (relax l k s).1 e.2.1) := by
  induction k generalizing s with
  | zero => omega
  | succ k ih =>
    rw [relax] at h ⊢
    split at h
    · rename_i hp
      rw [if_pos hp]
      obtain ⟨h1, h2⟩ := fold_still ht (s.1, s.2.1, -1) hp
      have : pass l s = (s.1, s.2.1, -1) := h1
      rw [this]
      exact h2
    · rename_i hp
      rw [if_neg hp]
      rcases Nat.eq_zero_or_pos k with rfl | hk'
      · rw [relax] at h; exact absurd h hp
      · exact ih hk' _ h
/-- how far from 0 a reached value lies -/
def Bd (N : Int) (D : List Int) (C : Int) : Prop := ∀ v, 0 ≤ v → v < N → dg D v < far → -C ≤ dg D v ∧ dg D v ≤ C
theorem walk_le {N fr C : Int} {l : List (Int × Int × Int)} {D : List Int} (h : J N l fr D) (hends : ∀ e ∈ l, 0 ≤ e.1 ∧ e.1 < N ∧ 0 ≤ e.2.1 ∧ e.2.1 < N) (hcost : ∀ e ∈ l, -10000 ≤ e.2.2 ∧ e.2.2 ≤ 10000) (hb : Bd N D C) (hC : C + 10000 < far) (hfr : 0 ≤ fr) (hfr2 : fr < N)
    (hst : ∀ e ∈ l, ¬ (dg D e.1 < far ∧ dg D e.1 + e.2.2 < dg D e.2.1)) {v d : Int} (hw : Wk l fr v d) : (0 ≤ v ∧ v < N) ∧ dg D v < far ∧ dg D v ≤ dg D fr + d := by
  induction hw with
  | here => exact ⟨⟨hfr, hfr2⟩, by have := h.start; unfold far; omega, by omega⟩
  | step hu he hf ih =>
    subst hf
    obtain ⟨⟨u0, u1⟩, u2, u3⟩ := ih
    have a := hends _ he
    have b := hcost _ he
    have c := hb _ u0 u1 u2
    have s := hst _ he
    exact ⟨⟨a.2.2.1, a.2.2.2⟩, by omega, by omega⟩
theorem tight {N fr C : Int} {l : List (Int × Int × Int)} {D : List Int} (h : J N l fr D) (hends : ∀ e ∈ l, 0 ≤ e.1 ∧ e.1 < N ∧ 0 ≤ e.2.1 ∧ e.2.1 < N) (hcost : ∀ e ∈ l, -10000 ≤ e.2.2 ∧ e.2.2 ≤ 10000) (hb : Bd N D C) (hC : C + 10000 < far) (hfr : 0 ≤ fr) (hfr2 : fr < N)
    (hst : ∀ e ∈ l, ¬ (dg D e.1 < far ∧ dg D e.1 + e.2.2 < dg D e.2.1)) :
    dg D fr = 0 ∧ ∀ v, 0 ≤ v → v < N → v ≠ fr → dg D v < far → ∃ e ∈ l, e.2.1 = v ∧ dg D e.1 < far ∧ dg D e.1 + e.2.2 = dg D v := by
  have hs := h.start
  have hw := h.wk fr hfr hfr2 (by unfold far; omega)
  have hz := (walk_le h hends hcost hb hC hfr hfr2 hst hw).2.2
  refine ⟨by omega, fun v v0 v1 hv hd => ?_⟩
  obtain ⟨e, he, e1, e2, e3⟩ := h.back v v0 v1 hv hd
  have := hst e he
  subst e1
  exact ⟨e, he, rfl, e2, by omega⟩
theorem Bd.more {N C C' : Int} {D : List Int} (h : Bd N D C) (hC : C ≤ C') : Bd N D C' := fun v v0 v1 hv => by have := h v v0 v1 hv; omega
theorem Bd.rx_ {N C : Int} {s : St} {e : Int × Int × Int} (h : Bd N s.1 C) (hl : (s.1.length : Int) = N) (he : 0 ≤ e.1 ∧ e.1 < N ∧ 0 ≤ e.2.1 ∧ e.2.1 < N) (hc : -10000 ≤ e.2.2 ∧ e.2.2 ≤ 10000) : Bd N (rx s e).1 (C + 10000) ∧ ((rx s e).1.length : Int) = N ∧ (rx s e).2.1.length = s.2.1.length := by
  unfold rx
  by_cases hh : dg s.1 e.1 < far ∧ dg s.1 e.1 + e.2.2 < dg s.1 e.2.1
  · rw [if_pos hh]
    refine ⟨fun v v0 v1 hv => ?_, by simpa using hl, by simp⟩
    have hs := dg_set (D := s.1) (t := e.2.1) (v := v) (x := dg s.1 e.1 + e.2.2) he.2.2.1 (by omega) v0
    simp only at hv ⊢
    rw [hs] at hv ⊢
    split at hv
    · rename_i hvt
      rw [if_pos hvt]
      have := h e.1 he.1 he.2.1 hh.1
      omega
    · rename_i hvt
      rw [if_neg hvt]
      have := h v v0 v1 hv
      omega
  · rw [if_neg hh]
    exact ⟨h.more (by omega), hl, rfl⟩
theorem Bd.fold {N : Int} {l : List (Int × Int × Int)} (hends : ∀ e ∈ l, 0 ≤ e.1 ∧ e.1 < N ∧ 0 ≤ e.2.1 ∧ e.2.1 < N) (hcost : ∀ e ∈ l, -10000 ≤ e.2.2 ∧ e.2.2 ≤ 10000) (r : List (Int × Int × Int)) (hr : ∀ e ∈ r, e ∈ l) (C : Int) (s : St) (h : Bd N s.1 C) (hl : (s.1.length : Int) = N) :
    Bd N (r.foldl rx s).1 (C + r.length * 10000) ∧ ((r.foldl rx s).1.length : Int) = N ∧ (r.foldl rx s).2.1.length = s.2.1.length := by
  induction r generalizing s C with
  | nil => exact ⟨h.more (by simp), hl, rfl⟩
  | cons e r ih =>
    rw [List.foldl_cons]
    obtain ⟨b1, b2, b3⟩ := h.rx_ hl (hends e (hr e (List.mem_cons_self ..))) (hcost e (hr e (List.mem_cons_self ..)))
    obtain ⟨c1, c2, c3⟩ := ih (fun x hx => hr x (List.mem_cons_of_mem _ hx)) _ _ b1 b2
    exact ⟨c1.more (by rw [List.length_cons]; omega), c2, c3.trans b3⟩
end Go.Proofs.Ytjebckehmmbkbaa.BellLaw
