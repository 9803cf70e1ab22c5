/- Plain facts on the walks that are taken off two ways at once (Suurballe): each comes to no place twice, and they share no edge. No Go in sight. -/
import Derived.Test.YtjebckehmmbkbaaVGridOver
import Derived.Test.YtjebckehmmbkbaaVYenLaw
namespace Go.Proofs.Ytjebckehmmbkbaa.TwinLaw
open NetLaw BellLaw FlowLaw WalkLaw
open Go.Proofs.Ytjebckehmmbkbaa.YenLaw (Smp)
set_option linter.unusedSimpArgs false
set_option linter.unusedVariables false
/-- a walk taken off what flows, step by step -/
inductive Fp (l : List E) (s : Int) (u0 : List Bool) : List Bool → Int → Int → List Int → Prop
  | start : Fp l s u0 u0 s 0 [s]
  | step {u : List Bool} {x co : Int} {p : List Int} {i : Nat} : Fp l s u0 u x co p → i < l.length → ub u i = true → fr l i = x → Fp l s u0 (u.set i false) (en l i) (co + cpt l i) (p ++ [en l i])
/-- both: what is left, and the way -/
structure FolP (l : List E) (s t : Int) (v : Int) (u0 u : List Bool) (x co : Int) (p : List Int) : Prop where
  fol : Fol l s t v u0 u x co
  pth : Fp l s u0 u x co p
/-- how many used edges lead from a to b -/
def ct (l : List E) (u : List Bool) (a b : Int) : Int := rsum l.length fun i => if ub u i = true ∧ fr l i = a ∧ en l i = b then 1 else 0
section
variable {l : List E} {s t v x co : Int} {u0 u : List Bool} {p : List Int} {π : Int → Int} {n : Nat}
theorem FolP.start (h : BF l s t u v) : FolP l s t v u u s 0 [s] := ⟨Fol.start h, .start⟩
theorem FolP.step (h : FolP l s t v u0 u x co p) {i : Nat} (hi : i < l.length) (hb : ub u i = true) (hf : fr l i = x) : FolP l s t v u0 (u.set i false) (en l i) (co + cpt l i) (p ++ [en l i]) := ⟨h.fol.step hi hb hf, h.pth.step hi hb hf⟩
theorem Fp.last (h : Fp l s u0 u x co p) : p.getLast? = some x := by cases h <;> simp
theorem Fp.head (h : Fp l s u0 u x co p) : p.head? = some s := by
  induction h with
  | start => rfl
  | step _ _ _ _ ih => rw [List.head?_append, ih]; rfl
theorem Fp.wk (h : Fp l s u0 u x co p) : Wk l s x co := by
  induction h with
  | start => exact Wk.here
  | step _ hi _ hf ih => exact Wk.step ih (ed_mem hi) hf
theorem Fp.sub (h : Fp l s u0 u x co p) (hl : u0.length = l.length) : u.length = l.length ∧ ∀ i, ub u i = true → ub u0 i = true := by
  induction h with
  | start => exact ⟨hl, fun _ h => h⟩
  | step _ hi _ _ ih =>
    refine ⟨by rw [List.length_set]; exact ih.1, fun j hj => ?_⟩
    rw [ub_set (by rw [ih.1]; exact hi)] at hj
    split at hj
    · cases hj
    · exact ih.2 j hj
/-- along used edges the height grows -/
theorem Fp.rise (h : Fp l s u0 u x co p) (h0 : Slk l u0 π) (hc : ∀ e ∈ l, 1 ≤ e.2.2) (hl : u0.length = l.length) : p.Pairwise (fun a b => π a < π b) ∧ ∀ a ∈ p, π a ≤ π x := by
  induction h with
  | start => exact ⟨List.pairwise_singleton _ _, fun a ha => by rw [List.mem_singleton] at ha; subst ha; exact Int.le_refl _⟩
  | @step u x co p i hp hi hb hf ih =>
    have h1 := h0.used hi ((hp.sub hl).2 i hb)
    have h2 := hc _ (ed_mem hi)
    have h3 : cpt l i = (ed l i).2.2 := rfl
    rw [hf] at h1
    have hlt : π x < π (en l i) := by omega
    refine ⟨?_, fun a ha => ?_⟩
    · rw [List.pairwise_append]
      refine ⟨ih.1, List.pairwise_singleton _ _, fun a ha b hb2 => ?_⟩
      rw [List.mem_singleton] at hb2
      subst hb2
      have := ih.2 a ha
      omega
    · rcases List.mem_append.1 ha with ha | ha
      · have := ih.2 a ha; omega
      · rw [List.mem_singleton] at ha; subst ha; exact Int.le_refl _
theorem prs_snoc {p : List Int} {x y : Int} (h : p.getLast? = some x) : prs (p ++ [y]) = prs p ++ [(x, y)] := by
  rw [List.getLast?_eq_some_iff] at h
  obtain ⟨q, rfl⟩ := h
  rw [List.append_assoc, List.singleton_append, prs_join]
  rfl
theorem eg_yes {l : List E} {i : Nat} (hi : i < l.length) : (eg l (fr l i) (en l i)).2 = true := ((WayLaw.eg_fold (fr l i) (en l i) l (0, false)).2.1 (ed l i) (ed_mem hi) rfl rfl).1
theorem Fp.ok (h : Fp l s u0 u x co p) : okP l (prs p) = true := by
  induction h with
  | start => rfl
  | step hp hi hb hf ih =>
    rw [prs_snoc hp.last, okP_snoc, ih, ← hf]
    exact eg_yes hi
theorem Fp.rng (h : Fp l s u0 u x co p) (hends : ∀ e ∈ l, 0 ≤ e.1 ∧ e.1 < n ∧ 0 ≤ e.2.1 ∧ e.2.1 < n) (s0 : 0 ≤ s) (s1 : s < n) : ∀ v ∈ p, 0 ≤ v ∧ v < n := by
  induction h with
  | start => intro v hv; rw [List.mem_singleton] at hv; subst hv; exact ⟨s0, s1⟩
  | step hp hi hb hf ih =>
    intro v hv
    rcases List.mem_append.1 hv with hv | hv
    · exact ih v hv
    · rw [List.mem_singleton] at hv; subst hv; exact (hends _ (ed_mem hi)).2.2
/-- the way comes to no place twice -/
theorem Fp.smp (h : Fp l s u0 u x co p) (h0 : Slk l u0 π) (hc : ∀ e ∈ l, 1 ≤ e.2.2) (hl : u0.length = l.length) (hends : ∀ e ∈ l, 0 ≤ e.1 ∧ e.1 < n ∧ 0 ≤ e.2.1 ∧ e.2.1 < n) (s0 : 0 ≤ s) (s1 : s < n) : Smp n l s x p :=
  ⟨h.head, h.last, (h.rise h0 hc hl).1.imp (fun {a b} hlt e => by subst e; omega), h.rng hends s0 s1, h.ok⟩
theorem ct_off {i : Nat} (hi : i < l.length) (hl : u.length = l.length) (hb : ub u i = true) (a b : Int) : ct l (u.set i false) a b = ct l u a b - (if fr l i = a ∧ en l i = b then 1 else 0) := by
  unfold ct
  rw [rsum_upd (f := fun i => if ub u i = true ∧ fr l i = a ∧ en l i = b then (1 : Int) else 0) l.length i hi fun j _ hj => by rw [ub_set (by omega), if_neg hj]]
  rw [ub_set (by omega), if_pos rfl, hb]
  simp
  omega
theorem ct_nonneg (l : List E) (u : List Bool) (a b : Int) : 0 ≤ ct l u a b := rsum_nonneg _ fun i _ => by split <;> omega
/-- how often the way goes from a to b: each time over an edge of its own -/
theorem Fp.count (h : Fp l s u0 u x co p) (hl : u0.length = l.length) (a b : Int) : ((prs p).count (a, b) : Int) + ct l u a b = ct l u0 a b := by
  induction h with
  | start => show ((prs [s]).count (a, b) : Int) + _ = _; rw [show prs [s] = [] from rfl]; simp
  | @step u x co p i hp hi hb hf ih =>
    rw [prs_snoc hp.last, List.count_append, ct_off hi (hp.sub hl).1 hb, List.count_singleton, ← hf]
    by_cases hab : fr l i = a ∧ en l i = b
    · obtain ⟨rfl, rfl⟩ := hab
      simp
      omega
    · rw [if_neg hab, if_neg (by simpa using hab)]
      simp
      omega
end
/-- over the edges by their numbers, and over the list -/
theorem rsum_take {g : E → Int} {l : List E} : ∀ k, k ≤ l.length → rsum k (fun i => g (ed l i)) = ((l.take k).map g).sum := by
  intro k
  induction k with
  | zero => intro _; simp [rsum]
  | succ k ih =>
    intro hk
    rw [rsum, ih (by omega), List.take_succ_eq_append_getElem (show k < l.length by omega), ed_at (by omega), List.map_append, List.sum_append]
    simp only [List.map_cons, List.map_nil, List.sum_cons, List.sum_nil]
    omega
theorem rsum_list (g : E → Int) (l : List E) : rsum l.length (fun i => g (ed l i)) = (l.map g).sum := by
  rw [rsum_take _ (Nat.le_refl _), List.take_length]
/-- how many edges lead from a to b -/
def cnE (l : List E) (a b : Int) : Nat := (l.map fun e => (e.1, e.2.1)).count (a, b)
theorem cnE_sum (l : List E) (a b : Int) : (cnE l a b : Int) = rsum l.length fun i => if fr l i = a ∧ en l i = b then 1 else 0 := by
  have h := rsum_list (fun e => if e.1 = a ∧ e.2.1 = b then 1 else 0) l
  have e : (rsum l.length fun i => if fr l i = a ∧ en l i = b then (1 : Int) else 0) = rsum l.length (fun i => (fun e : E => if e.1 = a ∧ e.2.1 = b then (1 : Int) else 0) (ed l i)) := rfl
  rw [e, h]
  clear h e
  unfold cnE
  induction l with
  | nil => rfl
  | cons e r ih =>
    rw [List.map_cons, List.map_cons, List.sum_cons, ← ih, List.count_cons]
    by_cases hab : e.1 = a ∧ e.2.1 = b
    · obtain ⟨rfl, rfl⟩ := hab
      simp
      omega
    · rw [if_neg hab, if_neg (by simpa using hab)]
      omega
theorem ct_le (l : List E) (u : List Bool) (a b : Int) : ct l u a b ≤ cnE l a b := by
  rw [cnE_sum]
  exact rsum_le _ fun i _ => by
    split
    · rename_i h; rw [if_pos h.2]; exact Int.le_refl _
    · split <;> omega
/-- do two walks share no edge: no step is gone more often than there are edges -/
def Apt (l : List E) (x y : List Int) : Prop := ∀ a b, (prs x ++ prs y).count (a, b) ≤ cnE l a b
theorem fp_apt {l : List E} {s : Int} {u2 u3 u4 : List Bool} {t a b : Int} {p q : List Int} (h : Fp l s u2 u3 t a p) (h' : Fp l s u3 u4 t b q) (hl : u2.length = l.length) : Apt l p q := fun c d => by
  have h1 := h.count hl c d
  have h2 := h'.count (h.sub hl).1 c d
  have h3 := ct_le l u2 c d
  have h4 := ct_nonneg l u4 c d
  rw [List.count_append]
  omega
end Go.Proofs.Ytjebckehmmbkbaa.TwinLaw
