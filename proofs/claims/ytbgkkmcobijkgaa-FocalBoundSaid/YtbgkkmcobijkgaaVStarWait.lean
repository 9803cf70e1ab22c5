/- Plain facts on what waits in a search with keys. -/
import Derived.Test.YtbgkkmcobijkgaaVStarLaw
namespace Go.Proofs.Ytbgkkmcobijkgaa.StarLaw
open NetLaw BellLaw DijkLaw HeurLaw
set_option linter.unusedSimpArgs false
set_option linter.unusedVariables false
/-- what waits: keys that are no less than they need be; all that is open waits with its key -/
structure Wt (K : Int → Int → Int) (n : Nat) (h D ord : List Int) (L : List Tr) : Prop where
  ent : ∀ e ∈ L, (0 ≤ e.2.2 ∧ e.2.2 < n) ∧ dg D e.2.2 < far ∧ e.2.1 = dg h e.2.2 ∧ K (dg D e.2.2) (dg h e.2.2) ≤ e.1
  pend : ∀ u, Opn n D ord u → ky K h D u ∈ L
section
variable {K : Int → Int → Int} {n : Nat} {h D ord : List Int} {L L' : List Tr}
theorem Wt.skip {k g v : Int} (hw : Wt K n h D ord L) (hp : ((k, g, v) :: L').Perm L) (hno : v ∈ ord ∨ K (dg D v) g < k) : Wt K n h D ord L' := by
  refine ⟨fun e he => hw.ent e (hp.mem_iff.1 (List.mem_cons_of_mem _ he)), fun u hu => ?_⟩
  rcases List.mem_cons.1 (hp.mem_iff.2 (hw.pend u hu)) with e | e
  · exfalso
    unfold ky at e
    injection e with e1 e2
    injection e2 with e2 e3
    subst e3
    rcases hno with h1 | h1
    · exact hu.2.2 h1
    · rw [← e2] at h1; omega
  · exact e
theorem Wt.take {k g v : Int} (hw : Wt K n h D ord L) (hp : ((k, g, v) :: L').Perm L) (hmin : ∀ e ∈ L, lt3 e (k, g, v) = false) (h1 : v ∉ ord) (h2 : ¬ K (dg D v) g < k) :
    (k, g, v) = ky K h D v ∧ Nx K n h D ord v ∧ Wt K n h D (ord ++ [v]) L' := by
  obtain ⟨hv, hf, hg, hk⟩ := hw.ent (k, g, v) (hp.mem_iff.1 (List.mem_cons_self ..))
  simp only at hv hf hg hk
  have hkk : k = K (dg D v) (dg h v) := by rw [hg] at h2; omega
  have hky : (k, g, v) = ky K h D v := by unfold ky; rw [← hkk, ← hg]
  refine ⟨hky, ⟨⟨hv, hf, h1⟩, fun u hu => ?_⟩, fun e he => hw.ent e (hp.mem_iff.1 (List.mem_cons_of_mem _ he)), fun u hu => ?_⟩
  · rw [← hky]
    exact hmin _ (hw.pend u hu)
  · have hu' : Opn n D ord u := ⟨hu.1, hu.2.1, fun x => hu.2.2 (List.mem_append_left _ x)⟩
    rcases List.mem_cons.1 (hp.mem_iff.2 (hw.pend u hu')) with e | e
    · exfalso
      unfold ky at e
      injection e with _ e2
      injection e2 with _ e3
      exact hu.2.2 (by rw [e3]; exact List.mem_append_right _ (List.mem_singleton.2 rfl))
    · exact e
theorem Wt.set {v : Nat} {x : Int} (hw : Wt K n h D ord L) (hK : ∀ c c' g, c ≤ c' → K c g ≤ K c' g) (hv : v < n) (hD : D.length = n) (hx : x < dg D v) (hxf : x < far) (hp : L'.Perm ((K x (dg h v), dg h v, (v : Int)) :: L)) : Wt K n h (D.set v x) ord L' := by
  have hs := fun u hu => dg_set (D := D) (t := (v : Int)) (v := u) (x := x) (by omega) (by omega) hu
  simp only [Int.toNat_natCast] at hs
  refine ⟨fun e he => ?_, fun u hu => ?_⟩
  · rcases List.mem_cons.1 (hp.mem_iff.1 he) with h1 | h1
    · subst h1
      simp only [hs _ (show (0 : Int) ≤ (v : Int) by omega), if_pos]
      exact ⟨⟨by omega, by omega⟩, hxf, trivial, Int.le_refl _⟩
    · obtain ⟨⟨e0, e1⟩, e2, e3, e4⟩ := hw.ent e h1
      rw [hs _ e0]
      split
      · rename_i hev
        refine ⟨⟨e0, e1⟩, hxf, e3, Int.le_trans (hK _ _ _ ?_) e4⟩
        rw [hev]
        omega
      · exact ⟨⟨e0, e1⟩, e2, e3, e4⟩
  · obtain ⟨⟨u0, u1⟩, u2, u3⟩ := hu
    rw [hs u u0] at u2
    unfold ky
    rw [hs u u0]
    split
    · rename_i hev
      subst hev
      exact hp.mem_iff.2 (List.mem_cons_self ..)
    · rename_i hev
      rw [if_neg hev] at u2
      exact hp.mem_iff.2 (List.mem_cons_of_mem _ (hw.pend u ⟨⟨u0, u1⟩, u2, u3⟩))
theorem Wt.none (hw : Wt K n h D ord []) : ∀ u, ¬ Opn n D ord u := fun u hu => by cases hw.pend u hu
end
theorem oe_take {l : List E} {v : Int} : ∀ (k : Nat), (((List.range k).filter fun i => (l.getD i (0, 0, 0)).1 == v).map fun i => l.getD i (0, 0, 0)) = if k ≤ l.length then oe (l.take k) v else ((List.range k).filter fun i => (l.getD i (0, 0, 0)).1 == v).map fun i => l.getD i (0, 0, 0) := by
  intro k
  split
  · rename_i hk
    induction k with
    | zero => rfl
    | succ k ih =>
      have hk' : k < l.length := by omega
      rw [List.range_succ, List.filter_append, List.map_append, ih (by omega), List.take_succ_eq_append_getElem hk']
      unfold oe
      rw [List.filter_append]
      congr 1
      have e : l.getD k (0, 0, 0) = l[k] := by rw [List.getD_eq_getElem?_getD, List.getElem?_eq_getElem hk']; rfl
      rw [List.filter_cons, List.filter_nil, List.filter_cons, List.filter_nil, e]
      by_cases h : l[k].1 = v
      · have h1 : (l[k].1 == v) = true := beq_iff_eq.2 h
        have h2 : decide (l[k].1 = v) = true := decide_eq_true h
        rw [if_pos h1, if_pos h2, List.map_cons, List.map_nil, e]
      · have h1 : ¬ (l[k].1 == v) = true := fun x => h (beq_iff_eq.1 x)
        have h2 : ¬ decide (l[k].1 = v) = true := fun x => h (of_decide_eq_true x)
        rw [if_neg h1, if_neg h2]
        rfl
  · rfl
/-- state after the first edges out of v -/
theorem rxs_snoc (h dn : List Int) (v : Int) (es : List E) (e : E) (s : List Int × List Int) : rxs h dn v (es ++ [e]) s = rx1 h dn v (rxs h dn v es s) e := by simp [rxs]
theorem outs_snoc (l : List E) (ord : List Int) (v : Int) (h : v ∉ ord) : outs l (ord ++ [v]) = outs l ord + l.countP fun e => decide (e.1 = v) := by
  rw [← outs_cons l ord v h]
  unfold outs
  refine List.countP_congr fun e _ => ?_
  simp [or_comm]
end Go.Proofs.Ytbgkkmcobijkgaa.StarLaw
