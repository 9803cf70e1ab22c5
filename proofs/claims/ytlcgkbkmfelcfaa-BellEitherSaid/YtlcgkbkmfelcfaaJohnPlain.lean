/- Plain: by heights, place by place, or by what lies between, it costs the same. No Go in sight. -/
import Derived.Test.YtlcgkbkmfelcfaaBellCyc
import Derived.Test.YtlcgkbkmfelcfaaBellSh
import Derived.Test.YtlcgkbkmfelcfaaFloydAllFn
import Derived.Test.YtlcgkbkmfelcfaaJohnLaw
namespace Go.Proofs.Ytlcgkbkmfelcfaa.JohnPlain
open NetLaw BellLaw DijkLaw FloydLaw JohnLaw BellSh BellCyc Go.Proofs.Ytlcgkbkmfelcfaa.Bell
set_option linter.unusedSimpArgs false
set_option linter.unusedVariables false
section
variable {n : Nat} {l : List E}
theorem Fl.walk_le {M : Mx Int} (h : Fl n l M) (hg : NetLaw.Good n l) {i v d : Int} (i0 : 0 ≤ i ∧ i < n) (hw : Wk l i v d) : (0 ≤ v ∧ v < n) ∧ M i.toNat v.toNat < far ∧ M i.toNat v.toNat ≤ d := by
  induction hw with
  | here =>
    refine ⟨i0, ?_, ?_⟩
    · rw [h.self _ (by omega)]; decide
    · rw [h.self _ (by omega)]; exact Int.le_refl _
  | step hu he hf ih =>
    subst hf
    obtain ⟨⟨u0, u1⟩, u2, u3⟩ := ih
    obtain ⟨_, _, x0, x1⟩ := hg.ends _ he
    have hc := hg.cost _ he
    have hm := h.edge _ he
    have hs := h.small _ _ (by omega) (by omega) u2
    have hmf : M (_ : Nat) (_ : Nat) < far := Int.lt_of_le_of_lt hm (by unfold far; omega)
    have ht := h.tri i.toNat _ _ (by omega) (by omega) (by omega) u2 hmf
    exact ⟨⟨x0, x1⟩, by unfold far; omega, by omega⟩
/-- the heights -/
def hs (n : Nat) (l : List E) : St := relax l n (List.replicate n 0, List.replicate n (-1), -1)
/-- the fault that Lift tells -/
def jerr (N : Int) (l : List E) : Int := if chk N l ≠ 0 then chk N l else if 0 ≤ (hs N.toNat l).2.2 then 6 else 0
def Nhi (n : Nat) (D : List Int) : Prop := D.length = n ∧ ∀ v, 0 ≤ v → v < (n : Int) → dg D v ≤ 0
theorem nhi_fold (hends : ∀ e ∈ l, 0 ≤ e.1 ∧ e.1 < n ∧ 0 ≤ e.2.1 ∧ e.2.1 < n) (r : List E) (hr : ∀ e ∈ r, e ∈ l) (s : St) (h : Nhi n s.1) : Nhi n (r.foldl rx s).1 := by
  induction r generalizing s with
  | nil => exact h
  | cons e r ih =>
    rw [List.foldl_cons]
    refine ih (fun x hx => hr x (by simp [hx])) _ ?_
    unfold rx
    split
    · rename_i hc
      obtain ⟨u0, u1, x0, x1⟩ := hends e (hr e (by simp))
      refine ⟨by rw [List.length_set]; exact h.1, fun v v0 v1 => ?_⟩
      dsimp only
      rw [dg_set x0 (by rw [h.1]; exact x1) v0]
      have a := h.2 _ x0 x1
      have b := h.2 v v0 v1
      split <;> omega
    · exact h
theorem nhi_relax (hends : ∀ e ∈ l, 0 ≤ e.1 ∧ e.1 < n ∧ 0 ≤ e.2.1 ∧ e.2.1 < n) (k : Nat) (s : St) (h : Nhi n s.1) : Nhi n (relax l k s).1 := by
  induction k generalizing s with
  | zero => exact h
  | succ k ih =>
    have h1 := nhi_fold hends l (fun _ h => h) (s.1, s.2.1, -1) h
    rw [relax]
    split
    · exact h1
    · exact ih _ h1
/-- what the heights keep -/
structure Ht (n : Nat) (l : List E) (h : List Int) : Prop where
  len : h.length = n
  bd : ∀ v, 0 ≤ v → v < (n : Int) → -384000000 ≤ ht h v ∧ ht h v ≤ 0
  ok : ∀ e ∈ l, ht h e.2.1 ≤ ht h e.1 + e.2.2
theorem hs_nhi (hg : NetLaw.Good n l) : Nhi n (hs n l).1 := nhi_relax hg.ends n _ ⟨by simp, fun v v0 v1 => by
    show (List.replicate n (0 : Int)).getD v.toNat 0 ≤ 0
    rw [List.getD_eq_getElem?_getD, List.getElem?_replicate]
    split <;> simp⟩
theorem hs_bd (hg : NetLaw.Good n l) (v : Int) (v0 : 0 ≤ v) (v1 : v < n) : -384000000 ≤ ht (hs n l).1 v ∧ ht (hs n l).1 v ≤ 0 := by
  have hz : Bd n (List.replicate n (0 : Int)) 0 := fun v v0 v1 _ => by
    have : dg (List.replicate n (0 : Int)) v = 0 := by
      rw [dg, List.getD_eq_getElem?_getD, List.getElem?_replicate]
      split <;> simp
    omega
  have hb : Bd n (hs n l).1 384000000 := by
    refine (bd_relax hg.ends hg.cost n 0 (List.replicate n 0, List.replicate n (-1), -1) hz (by simp)).more ?_
    have h1 := hg.len
    have h2 := hg.hi
    have h3 : (n : Int) * (l.length * 10000) ≤ 64 * (600 * 10000) := Int.mul_le_mul (by omega) (by omega) (by omega) (by omega)
    omega
  have h1 : dg (hs n l).1 v ≤ 0 := (hs_nhi hg).2 v v0 v1
  exact ⟨(hb v v0 v1 (by unfold far; omega)).1, h1⟩
theorem hs_ht (hg : NetLaw.Good n l) (h : (hs n l).2.2 < 0) : Ht n l (hs n l).1 := by
  have h1 := hg.lo
  refine ⟨(hs_nhi hg).1, hs_bd hg, fun e he => ?_⟩
  have hst := relax_still (l := l) (fun e he => (hg.ends e he).2.2.1) n (by omega) _ h e he
  obtain ⟨u0, u1, x0, x1⟩ := hg.ends e he
  have := (hs_bd hg e.1 u0 u1).2
  have e1 : dg (relax l n (List.replicate n 0, List.replicate n (-1), -1)).1 e.1 = ht (hs n l).1 e.1 := rfl
  have e2 : dg (relax l n (List.replicate n 0, List.replicate n (-1), -1)).1 e.2.1 = ht (hs n l).1 e.2.1 := rfl
  rw [e1, e2] at hst
  have hf : (0 : Int) < far := by decide
  omega
theorem hs_no (hg : NetLaw.Good n l) (h : 0 ≤ (hs n l).2.2) {M : Mx Int} (hM : Fl n l M) : False := by
  have h1 := hg.lo
  obtain ⟨_, m, hc⟩ := cyc_at (show 1 ≤ n by omega) hg.ends (List.replicate n 0) (-1) (by simp) h
  have hr := hc.rng 0
  have hwk := hc.wk
  have hng := hc.neg
  have e0 : ∀ (P : List Int) (c : Int), it P 0 c = c := fun _ _ => rfl
  rw [e0] at hr
  clear hc
  generalize it _ n _ = c at *
  have h2 := (Fl.walk_le hM hg hr hwk).2.2
  rw [hM.self _ (by omega)] at h2
  omega
theorem rl_no (hg : NetLaw.Good n l) {fr : Nat} (h : 0 ≤ (rl n l fr).2.2) {M : Mx Int} (hM : Fl n l M) : False := by
  have h1 := hg.lo
  obtain ⟨_, m, hc⟩ := cyc_at (show 1 ≤ n by omega) hg.ends (Bell.start n fr) (-1) (start_len _ _) h
  have hr := hc.rng 0
  have hwk := hc.wk
  have hng := hc.neg
  have e0 : ∀ (P : List Int) (c : Int), it P 0 c = c := fun _ _ => rfl
  rw [e0] at hr
  clear hc
  generalize it _ n _ = c at *
  have h2 := (Fl.walk_le hM hg hr hwk).2.2
  rw [hM.self _ (by omega)] at h2
  omega
/-- with heights nothing costs less than their difference -/
theorem all_ge (hg : NetLaw.Good n l) {h : List Int} (hh : Ht n l h) (i j : Nat) (hi : i < n) (hj : j < n) : ht h j - ht h i ≤ all n l i j := by
  have hf : far = 1099511627776 := rfl
  have hstep : ∀ k, k < n → ∀ M : Mx Int, (∀ i j, i < n → j < n → ht h j - ht h i ≤ M i j) → ∀ i' j', i' < n → j' < n → (∀ a b, a < n → b < n → ht h b - ht h a ≤ stp min th k i' M j' a b) := by
    intro k hk M hM i' j' hi' hj' a b ha hb
    unfold stp set2
    split
    · rename_i e
      obtain ⟨rfl, rfl⟩ := e
      have h1 := hM a b ha hb
      have h2 := hM a k ha hk
      have h3 := hM k b hk hb
      have h4 := hh.bd b (by omega) (by omega)
      have h5 := hh.bd a (by omega) (by omega)
      have h6 : ht h b - ht h a ≤ th (M a k) (M k b) := by
        unfold th
        split <;> omega
      omega
    · exact hM a b ha hb
  have hinn : ∀ k, k < n → ∀ M : Mx Int, (∀ i j, i < n → j < n → ht h j - ht h i ≤ M i j) → ∀ i', i' < n → ∀ j', j' ≤ n → (∀ a b, a < n → b < n → ht h b - ht h a ≤ inn min th k i' M j' a b) := by
    intro k hk M hM i' hi' j'
    induction j' with
    | zero => intro _; exact hM
    | succ j' ih => intro hj; exact hstep k hk _ (ih (by omega)) i' j' hi' (by omega)
  have hmid : ∀ k, k < n → ∀ M : Mx Int, (∀ i j, i < n → j < n → ht h j - ht h i ≤ M i j) → ∀ i', i' ≤ n → (∀ a b, a < n → b < n → ht h b - ht h a ≤ mid min th n k M i' a b) := by
    intro k hk M hM i'
    induction i' with
    | zero => intro _; exact hM
    | succ i' ih => intro hi; exact hinn k hk _ (ih (by omega)) i' (by omega) n (Nat.le_refl _)
  have hout : ∀ M : Mx Int, (∀ i j, i < n → j < n → ht h j - ht h i ≤ M i j) → ∀ k, k ≤ n → (∀ a b, a < n → b < n → ht h b - ht h a ≤ out min th n M k a b) := by
    intro M hM k
    induction k with
    | zero => intro _; exact hM
    | succ k ih => intro hk; exact hmid k (by omega) _ (ih (by omega)) n (Nat.le_refl _)
  have heds : ∀ r : List E, (∀ e ∈ r, e ∈ l) → ∀ M : Mx Int, (∀ i j, i < n → j < n → ht h j - ht h i ≤ M i j) → (∀ i j, i < n → j < n → ht h j - ht h i ≤ eds min cst r M i j) := by
    intro r
    induction r with
    | nil => intro _ M hM; exact hM
    | cons e r ih =>
      intro hr M hM
      refine ih (fun x hx => hr x (by simp [hx])) _ fun a b ha hb => ?_
      unfold ed1 set2
      split
      · rename_i e'
        have h1 := hM a b ha hb
        have h2 := hh.ok e (hr e (by simp))
        obtain ⟨u0, u1, x0, x1⟩ := hg.ends e (hr e (by simp))
        obtain ⟨rfl, rfl⟩ := e'
        have e1 : ((e.1.toNat : Nat) : Int) = e.1 := by omega
        have e2 : ((e.2.1.toNat : Nat) : Int) = e.2.1 := by omega
        rw [e1, e2] at h1 ⊢
        have : cst e = e.2.2 := rfl
        omega
      · exact hM a b ha hb
  refine hout _ (heds l (fun _ h => h) _ fun a b ha hb => ?_) n (Nat.le_refl _) i j hi hj
  have h4 := hh.bd b (by omega) (by omega)
  have h5 := hh.bd a (by omega) (by omega)
  unfold ini
  split
  · rename_i e; subst e; omega
  · omega
theorem jerr_aerr (N : Int) : jerr N l = FloydAll.aerr N l := by
  unfold jerr FloydAll.aerr
  by_cases hc : chk N l = 0
  · have hg := chk_zero.1 hc
    obtain ⟨n, rfl⟩ := Int.eq_ofNat_of_zero_le (show 0 ≤ N by have := hg.lo; omega)
    have hcn : ¬ chk (n : Int) l ≠ 0 := fun h => h hc
    rw [if_neg hcn, if_neg hcn]
    simp only [Int.toNat_natCast]
    by_cases hl : 0 ≤ (hs n l).2.2
    · rw [if_pos hl]
      by_cases hneg : FloydAll.neg n (all n l) = true
      · rw [if_pos hneg]
      · exact (hs_no hg hl (all_ok hg (FloydAll.neg_false (Bool.eq_false_iff.2 hneg)))).elim
    · rw [if_neg hl]
      by_cases hneg : FloydAll.neg n (all n l) = true
      rotate_left
      · rw [if_neg hneg]
      · unfold FloydAll.neg at hneg
        rw [List.any_eq_true] at hneg
        obtain ⟨i, hi, hd⟩ := hneg
        rw [List.mem_range] at hi
        rw [decide_eq_true_eq] at hd
        have := all_ge hg (hs_ht hg (by omega)) i i hi hi
        omega
  · rw [if_pos (show chk N l ≠ 0 from hc), if_pos (show chk N l ≠ 0 from hc)]
theorem wk_flt {h : List Int} {fr v d : Int} (hw : Wk l fr v d) : Wk (flt h l) fr v (d + ht h fr - ht h v) := by
  induction hw with
  | here => have e : (0 : Int) + ht h fr - ht h fr = 0 := by omega
            rw [e]; exact Wk.here
  | @step u d e hu he hf ih =>
    have h1 := Wk.step (e := flc h e) ih (List.mem_map_of_mem he) hf
    have e1 : (flc h e).2.1 = e.2.1 := rfl
    have e2 : d + ht h fr - ht h u + (flc h e).2.2 = d + e.2.2 + ht h fr - ht h e.2.1 := by
      subst hf
      show d + ht h fr - ht h e.1 + (e.2.2 + ht h e.1 - ht h e.2.1) = _
      omega
    rw [e1, e2] at h1
    exact h1
theorem flt_wk {h : List Int} {fr v d : Int} (hw : Wk (flt h l) fr v d) : Wk l fr v (d + ht h v - ht h fr) := by
  induction hw with
  | here => have e : (0 : Int) + ht h fr - ht h fr = 0 := by omega
            rw [e]; exact Wk.here
  | @step u d e hu he hf ih =>
    unfold flt at he
    rw [List.mem_map] at he
    obtain ⟨x, hx, rfl⟩ := he
    have h1 := Wk.step ih hx hf
    have e2 : d + ht h u - ht h fr + x.2.2 = d + (flc h x).2.2 + ht h (flc h x).2.1 - ht h fr := by
      subst hf
      show d + ht h x.1 - ht h fr + x.2.2 = d + (x.2.2 + ht h x.1 - ht h x.2.1) + ht h x.2.1 - ht h fr
      omega
    rw [e2] at h1
    exact h1
/-- one row of All's -/
def jr (h : List Int) (u : Nat) (D : List Int) : List Int := (List.range D.length).map fun v => if D.getD v 0 < far then D.getD v 0 + (ht h v - ht h u) else D.getD v 0
theorem flt_nn {h : List Int} (hh : Ht n l h) : ∀ e ∈ flt h l, 0 ≤ e.2.2 := fun e he => by
  unfold flt at he
  rw [List.mem_map] at he
  obtain ⟨x, hx, rfl⟩ := he
  have := hh.ok x hx
  show 0 ≤ x.2.2 + ht h x.1 - ht h x.2.1
  omega
theorem flt_bd (hg : NetLaw.Good n l) {h : List Int} (hh : Ht n l h) : ∀ e ∈ flt h l, (0 ≤ e.1 ∧ e.1 < n ∧ 0 ≤ e.2.1 ∧ e.2.1 < n) ∧ -1000000000 ≤ e.2.2 ∧ e.2.2 ≤ 1000000000 := fun e he => by
  unfold flt at he
  rw [List.mem_map] at he
  obtain ⟨x, hx, rfl⟩ := he
  obtain ⟨u0, u1, x0, x1⟩ := hg.ends x hx
  have a := hh.bd _ u0 u1
  have b := hh.bd _ x0 x1
  have c := hg.cost x hx
  refine ⟨⟨u0, u1, x0, x1⟩, ?_⟩
  show -1000000000 ≤ x.2.2 + ht h x.1 - ht h x.2.1 ∧ x.2.2 + ht h x.1 - ht h x.2.1 ≤ 1000000000
  omega
theorem jr_all (hg : NetLaw.Good n l) {h : List Int} (hh : Ht n l h) {M : Mx Int} (hM : Fl n l M) {u : Nat} (hu : u < n) {D : List Int} (hD : Sh n u (flt h l) D) : jr h u D = (List.range n).map (M u) := by
  have hl : D.length = n := by have := hD.len; omega
  have hf : far = 1099511627776 := rfl
  unfold jr
  rw [hl]
  refine List.map_congr_left fun v hv => ?_
  rw [List.mem_range] at hv
  have hdg : dg D (v : Int) = D.getD v 0 := by rw [dg, Int.toNat_natCast]
  rw [← hdg]
  have hends : ∀ e ∈ flt h l, 0 ≤ e.1 ∧ e.1 < n ∧ 0 ≤ e.2.1 ∧ e.2.1 < n := fun e he => (flt_bd hg hh e he).1
  have hlo := hD.lo v (by omega) (by omega)
  have hMh := hM.hi u v
  have bu := hh.bd u (by omega) (by omega)
  have bv := hh.bd v (by omega) (by omega)
  have h1 : M u v < far → dg D v ≤ M u v + ht h u - ht h v := fun hm => by
    have a := hM.small u v hu hv hm
    exact hD.walk_le hends (wk_flt (hM.wk u v hu hv hm)) (by omega) (flt_nn hh)
  have h2 : dg D v < far → M u v < far ∧ M u v ≤ dg D v + ht h v - ht h u := fun hd => by
    have a := Fl.walk_le hM hg (i := (u : Int)) (by omega) (flt_wk (hD.wk v (by omega) (by omega) hd))
    simp only [Int.toNat_natCast] at a
    exact a.2
  by_cases hd : dg D v < far
  · rw [if_pos hd]
    obtain ⟨a, b⟩ := h2 hd
    have := h1 a
    omega
  · rw [if_neg hd]
    have : ¬ M u v < far := fun hm => by
      have a := h1 hm
      have b := hM.small u v hu hv hm
      omega
    omega
theorem bell_all (hg : NetLaw.Good n l) {M : Mx Int} (hM : Fl n l M) {u : Nat} (hu : u < n) : (rl n l u).2.2 < 0 ∧ (rl n l u).1 = (List.range n).map (M u) := by
  have hlast : (rl n l u).2.2 < 0 := by
    rcases Int.lt_or_le (rl n l u).2.2 0 with h | h
    · exact h
    · exact (rl_no hg h hM).elim
  refine ⟨hlast, ?_⟩
  have hf : far = 1099511627776 := rfl
  have hj : J n l u (rl n l u).1 := J.relax_ hg.ends (by omega) n _ (j_start hu l)
  have ht := dist_law hg hu hlast
  have hb : Bd n (rl n l u).1 384000000 := by
    refine (bd_relax hg.ends hg.cost n 0 (Bell.start n u, List.replicate n (-1), -1) (bd_start hu) (by simp [start_len])).more ?_
    have h1 := hg.len
    have h2 := hg.hi
    have h3 : (n : Int) * (l.length * 10000) ≤ 64 * (600 * 10000) := Int.mul_le_mul (by omega) (by omega) (by omega) (by omega)
    omega
  have h0 : dg (rl n l u).1 u = 0 := by rw [dg, Int.toNat_natCast]; exact ht.start
  refine List.ext_getElem (by rw [ht.len]; simp) fun v hv hv2 => ?_
  rw [List.length_map, List.length_range] at hv2
  rw [List.getElem_map, List.getElem_range]
  have hdg : dg (rl n l u).1 (v : Int) = (rl n l u).1[v] := by rw [dg, Int.toNat_natCast, List.getD_eq_getElem?_getD, List.getElem?_eq_getElem hv]; rfl
  rw [← hdg]
  have hMh := hM.hi u v
  have hhi := hj.hi v (by omega) (by omega)
  have h1 : M u v < far → dg (rl n l u).1 v < far ∧ dg (rl n l u).1 v ≤ M u v := fun hm => by
    have a := BellLaw.walk_le hj hg.ends hg.cost hb (by omega) (by omega) (by omega) ht.still (hM.wk u v hu hv2 hm)
    rw [h0] at a
    exact ⟨a.2.1, by omega⟩
  have h2 : dg (rl n l u).1 v < far → M u v < far ∧ M u v ≤ dg (rl n l u).1 v := fun hd => by
    have a := Fl.walk_le hM hg (i := (u : Int)) (by omega) (hj.wk v (by omega) (by omega) hd)
    simp only [Int.toNat_natCast] at a
    exact a.2
  by_cases hd : dg (rl n l u).1 v < far
  · obtain ⟨a, b⟩ := h2 hd
    have := (h1 a).2
    omega
  · have : ¬ M u v < far := fun hm => hd (h1 hm).1
    omega
end
end Go.Proofs.Ytlcgkbkmfelcfaa.JohnPlain
