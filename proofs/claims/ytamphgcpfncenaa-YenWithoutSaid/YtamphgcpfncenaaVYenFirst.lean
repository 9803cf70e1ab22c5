/- Plain: the first way told costs what it costs. -/
import Derived.Test.YtamphgcpfncenaaVYenOn
import Derived.Test.YtamphgcpfncenaaVTopLaw
namespace Go.Proofs.Ytamphgcpfncenaa.YenLaw
open NetLaw BellLaw DijkLaw WalkLaw WayLaw
set_option linter.unusedSimpArgs false
set_option linter.unusedVariables false
section
variable {n s t : Nat} {l : List E} {D : List Int}
theorem bk_all (hD : Sh n s l D) (hg : NetLaw.Good n l) (hc : ∀ e ∈ l, 1 ≤ e.2.2) {tt : Int} : ∀ (k : Nat) (v : Int) (b : List Int), (dg D v).toNat ≤ k → dg D v < far → (0 ≤ v ∧ v < n) → Bk n l D tt v b → ∃ b', Bk n l D tt s b' := by
  intro k
  induction k with
  | zero =>
    intro v b hk hf hv hb
    by_cases hvs : v = s
    · subst hvs; exact ⟨b, hb⟩
    · obtain ⟨h1, h2, h3, h4⟩ := pv_spec hD hg hc hv hf hvs
      have := (hD.lo _ h2 h3).1
      omega
  | succ k ih =>
    intro v b hk hf hv hb
    by_cases hvs : v = s
    · subst hvs; exact ⟨b, hb⟩
    · obtain ⟨h1, h2, h3, h4⟩ := pv_spec hD hg hc hv hf hvs
      exact ih _ _ (by omega) (by omega) ⟨h2, h3⟩ (hb.add h1 ⟨h2, h3⟩ h4 hf)
/-- there is a way without loops that costs what it costs -/
theorem best_smp (hD : Sh n s l D) (hg : NetLaw.Good n l) (hc : ∀ e ∈ l, 1 ≤ e.2.2) (ht : t < n) (hf : dg D (t : Int) < far) : ∃ p, Smp n l s t p ∧ wt l p = dg D (t : Int) := by
  obtain ⟨b, hb⟩ := bk_all hD hg hc _ t [(t : Int)] (Nat.le_refl _) hf ⟨by omega, by omega⟩ (Bk.one ⟨by omega, by omega⟩ hf)
  have hw := hb.way
  obtain ⟨h1, h2⟩ := links_cost hD b.reverse s t hw.head hw.last (fun z hz => (hw.rng z hz).2.2) hw.link
  refine ⟨b.reverse, ⟨hw.head, hw.last, hw.nd, fun v hv => ⟨(hw.rng v hv).1, (hw.rng v hv).2.1⟩, h1⟩, ?_⟩
  unfold wt
  rw [h2, hD.st]
  omega
theorem Smp.ge {p : List Int} (h : Smp n l s t p) (hD : Sh n s l D) (hg : NetLaw.Good n l) (hc : ∀ e ∈ l, 1 ≤ e.2.2) : dg D (t : Int) ≤ wt l p ∧ wt l p < far ∧ 0 ≤ wt l p := by
  have hw := TopLaw.walk_wk p s t h.head h.last h.ok
  have hb := sumP_bd hg.cost (prs p)
  rw [prs_len] at hb
  have hl := h.len
  have hn := hg.hi
  have hlt : wt l p < far := by unfold wt far; omega
  have h1 := hD.walk_le hg.ends hw hlt (fun e he => by have := hc e he; omega)
  have hd := (hD.wk t)
  refine ⟨h1, hlt, ?_⟩
  have key : ∀ (v x : Int), Wk l s v x → 0 ≤ x := fun v x hw => by
    induction hw with
    | here => exact Int.le_refl _
    | step _ he _ ih => have := hc _ he; omega
  exact key _ _ hw
theorem Top.first {k : Nat} {p : List Int} {r : List (List Int)} (h : Top n l s t k (p :: r)) (hD : Sh n s l D) (hg : NetLaw.Good n l) (hc : ∀ e ∈ l, 1 ≤ e.2.2) (ht : t < n) : wt l p = dg D (t : Int) := by
  obtain ⟨h1, h2, _⟩ := (h.so p (by simp)).ge hD hg hc
  obtain ⟨p', hp', hw⟩ := best_smp hD hg hc ht (by omega)
  have hle : leY l p p' := by
    by_cases hm : p' ∈ p :: r
    · rcases List.mem_cons.1 hm with e | hm
      · exact .inl e.symm
      · exact .inr ((List.pairwise_cons.1 h.sorted).1 p' hm)
    · exact .inr (h.low p' hp' hm p (by simp))
  rcases hle with e | e
  · rw [e, hw]
  · rw [ltY_iff] at e
    unfold ky at e
    simp only at e
    omega
end
end Go.Proofs.Ytamphgcpfncenaa.YenLaw
