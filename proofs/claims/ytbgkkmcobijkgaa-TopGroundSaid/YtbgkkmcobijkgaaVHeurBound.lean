/- Plain facts on guesses by landmarks: no Go in sight. -/
import Derived.Test.YtbgkkmcobijkgaaVHeurLaw
import Derived.Test.YtbgkkmcobijkgaaVBellEnds
import Derived.Test.YtbgkkmcobijkgaaVDijkTurnsLaw
namespace Go.Proofs.Ytbgkkmcobijkgaa.HeurLaw
open NetLaw BellLaw DijkLaw
set_option linter.unusedSimpArgs false
set_option linter.unusedVariables false
/-- what is come to costs little -/
theorem sh_bd {n fr : Nat} {l : List E} {Z : List Int} (hZ : Sh n fr l Z) (hg : NetLaw.Good n l) (hc : ∀ e ∈ l, 1 ≤ e.2.2) {v : Int} (hv : 0 ≤ v ∧ v < n) (hf : dg Z v < far) : dg Z v ≤ 640000 := by
  have key : ∀ k : Nat, ∀ v : Int, 0 ≤ v ∧ v < n → dg Z v < far → BellSh.rank n Z v ≤ k → dg Z v ≤ 10000 * (k : Int) := by
    intro k
    induction k with
    | zero =>
      intro v hv hf hr
      by_cases e : v = fr
      · rw [e, hZ.st]; simp
      · obtain ⟨x, hx, h1, h2, h3⟩ := BellSh.pred hZ hg.ends hc hv hf e
        have := BellSh.rank_lt (n := n) ⟨(hg.ends x hx).1, (hg.ends x hx).2.1⟩ h3
        omega
    | succ k ih =>
      intro v hv hf hr
      by_cases e : v = fr
      · rw [e, hZ.st]; omega
      · obtain ⟨x, hx, h1, h2, h3⟩ := BellSh.pred hZ hg.ends hc hv hf e
        have h4 := BellSh.rank_lt (n := n) ⟨(hg.ends x hx).1, (hg.ends x hx).2.1⟩ h3
        have h5 := ih x.1 ⟨(hg.ends x hx).1, (hg.ends x hx).2.1⟩ (by omega) (by omega)
        have := (hg.cost x hx).2
        omega
  have h1 := BellSh.rank_le (Z := Z) hv
  have h2 := key 63 v hv hf (by have := hg.hi; omega)
  omega
/-- how far two costs are apart at least -/
def lst (a b : Int) : Int := if a = far then 0 else if b = far then far else max 0 (b - a)
theorem lst_bd {a b : Int} (ha : 0 ≤ a) (hb : 0 ≤ b ∧ b ≤ far) : 0 ≤ lst a b ∧ lst a b ≤ far := by
  unfold lst far at *
  split
  · omega
  · split <;> omega
theorem lst_self (a : Int) : lst a a = 0 := by unfold lst; split <;> omega
section
variable {n m : Nat} {l : List E} {D : List Int} {t : Int}
theorem lst_from (h : Sh n m l D) (hg : NetLaw.Good n l) (hc : ∀ e ∈ l, 1 ≤ e.2.2) (ht : 0 ≤ t ∧ t < n) {e : E} (he : e ∈ l) : lst (dg D e.1) (dg D t) ≤ e.2.2 + lst (dg D e.2.1) (dg D t) := by
  obtain ⟨a0, a1, b0, b1⟩ := hg.ends e he
  have h1 := h.lo e.1 a0 a1
  have h2 := h.lo e.2.1 b0 b1
  have h3 := h.lo t ht.1 ht.2
  have h4 := hc e he
  have h7 := (hg.cost e he).2
  have h5 := h.still e he
  have h6 : dg D e.1 < far → dg D e.1 ≤ 640000 := fun hf => sh_bd h hg hc ⟨a0, a1⟩ hf
  unfold lst
  generalize dg D e.1 = a at *
  generalize dg D e.2.1 = b at *
  generalize dg D t = z at *
  unfold far at *
  split
  · split
    · omega
    · split <;> omega
  · have h8 := h5 (by omega)
    have h9 := h6 (by omega)
    split
    · rw [if_neg (by omega)]
      omega
    · rw [if_neg (by omega)]
      omega
theorem good_turned {N : Int} (h : NetLaw.Good N l) : NetLaw.Good N (DijkTurnsPlain.turned l) := by
  refine ⟨h.lo, h.hi, by unfold DijkTurnsPlain.turned; rw [List.length_map]; exact h.len, fun e he => ?_, fun e he => ?_⟩
  · unfold DijkTurnsPlain.turned at he; rw [List.mem_map] at he; obtain ⟨x, hx, rfl⟩ := he
    have := h.ends x hx
    exact ⟨this.2.2.1, this.2.2.2, this.1, this.2.1⟩
  · unfold DijkTurnsPlain.turned at he; rw [List.mem_map] at he; obtain ⟨x, hx, rfl⟩ := he
    exact h.cost x hx
theorem cost_turned (hc : ∀ e ∈ l, 1 ≤ e.2.2) : ∀ e ∈ DijkTurnsPlain.turned l, 1 ≤ e.2.2 := fun e he => by
  unfold DijkTurnsPlain.turned at he; rw [List.mem_map] at he; obtain ⟨x, hx, rfl⟩ := he
  exact hc x hx
theorem lst_to (h : Sh n m (DijkTurnsPlain.turned l) D) (hg : NetLaw.Good n l) (hc : ∀ e ∈ l, 1 ≤ e.2.2) (ht : 0 ≤ t ∧ t < n) {e : E} (he : e ∈ l) : lst (dg D t) (dg D e.1) ≤ e.2.2 + lst (dg D t) (dg D e.2.1) := by
  obtain ⟨a0, a1, b0, b1⟩ := hg.ends e he
  have h1 := h.lo e.1 a0 a1
  have h2 := h.lo e.2.1 b0 b1
  have h3 := h.lo t ht.1 ht.2
  have h4 := hc e he
  have h7 := (hg.cost e he).2
  have hm : ((e.2.1, e.1, e.2.2) : E) ∈ DijkTurnsPlain.turned l := by unfold DijkTurnsPlain.turned; rw [List.mem_map]; exact ⟨e, he, rfl⟩
  have h5 := h.still _ hm
  have h6 : dg D e.2.1 < far → dg D e.2.1 ≤ 640000 := fun hf => sh_bd h (good_turned hg) (cost_turned hc) ⟨b0, b1⟩ hf
  simp only at h5
  unfold lst
  generalize dg D e.1 = a at *
  generalize dg D e.2.1 = b at *
  generalize dg D t = z at *
  unfold far at *
  split
  · omega
  · by_cases hb : b = 1099511627776
    · rw [if_pos hb]
      split <;> omega
    · have h8 := h5 (by omega)
      have h9 := h6 (by omega)
      rw [if_neg hb, if_neg (by omega)]
      omega
/-- the bound by the first k landmarks -/
def bdl (D1 D2 : List (List Int)) (v t : Int) : Nat → Int
  | 0 => 0
  | k + 1 => max (max (bdl D1 D2 v t k) (lst (dg (D1.getD k []) v) (dg (D1.getD k []) t))) (lst (dg (D2.getD k []) t) (dg (D2.getD k []) v))
/-- costs from and to landmarks -/
def Lm (n : Nat) (l : List E) (ms : List Int) (D1 D2 : List (List Int)) : Prop := ∀ i (h : i < ms.length), Sh n ms[i] l (D1.getD i []) ∧ Sh n ms[i] (DijkTurnsPlain.turned l) (D2.getD i [])
/-- all guesses -/
def bls (n : Nat) (D1 D2 : List (List Int)) (t : Int) (k : Nat) : Nat → List Int := fun m => (List.range m).map fun (v : Nat) => bdl D1 D2 v t k
theorem bls_len (D1 D2 : List (List Int)) (t : Int) (k m : Nat) : (bls n D1 D2 t k m).length = m := by simp [bls]
theorem bls_snoc (D1 D2 : List (List Int)) (t : Int) (k m : Nat) : bls n D1 D2 t k (m + 1) = bls n D1 D2 t k m ++ [bdl D1 D2 m t k] := by simp [bls, List.range_succ]
theorem dg_bls {D1 D2 : List (List Int)} {k : Nat} {v : Int} (v0 : 0 ≤ v) (v1 : v < m) : dg (bls n D1 D2 t k m) v = bdl D1 D2 v t k := by
  obtain ⟨v, rfl⟩ := Int.eq_ofNat_of_zero_le v0
  conv => lhs; unfold dg
  rw [Int.toNat_natCast, List.getD_eq_getElem?_getD, List.getElem?_eq_getElem (by rw [bls_len]; omega), Option.getD_some]
  simp [bls]
variable {ms : List Int} {D1 D2 : List (List Int)}
theorem bdl_bd (hL : Lm n l ms D1 D2) (ht : 0 ≤ t ∧ t < n) {v : Int} (hv : 0 ≤ v ∧ v < n) : ∀ k, k ≤ ms.length → 0 ≤ bdl D1 D2 v t k ∧ bdl D1 D2 v t k ≤ far := by
  intro k
  induction k with
  | zero => intro _; unfold bdl far; omega
  | succ k ih =>
    intro hk
    have h := ih (by omega)
    obtain ⟨s1, s2⟩ := hL k (by omega)
    have b1 := lst_bd (s1.lo v hv.1 hv.2).1 (s1.lo t ht.1 ht.2)
    have b2 := lst_bd (s2.lo t ht.1 ht.2).1 (s2.lo v hv.1 hv.2)
    unfold bdl
    omega
theorem ms_nat (hL : Lm n l ms D1 D2) (hr : ∀ v ∈ ms, 0 ≤ v ∧ v < n) {k : Nat} (hk : k < ms.length) : ∃ m : Nat, Sh n m l (D1.getD k []) ∧ Sh n m (DijkTurnsPlain.turned l) (D2.getD k []) := by
  obtain ⟨a, b⟩ := hr _ (List.getElem_mem hk)
  obtain ⟨m, hm⟩ := Int.eq_ofNat_of_zero_le a
  have := hL k hk
  rw [hm] at this
  exact ⟨m, this⟩
theorem bdl_edge (hL : Lm n l ms D1 D2) (hr : ∀ v ∈ ms, 0 ≤ v ∧ v < n) (hg : NetLaw.Good n l) (hc : ∀ e ∈ l, 1 ≤ e.2.2) (ht : 0 ≤ t ∧ t < n) {e : E} (he : e ∈ l) : ∀ k, k ≤ ms.length → bdl D1 D2 e.1 t k ≤ e.2.2 + bdl D1 D2 e.2.1 t k := by
  intro k
  induction k with
  | zero => intro _; unfold bdl; have := hc e he; omega
  | succ k ih =>
    intro hk
    have h := ih (by omega)
    obtain ⟨m, s1, s2⟩ := ms_nat hL hr (show k < ms.length by omega)
    have b1 := lst_from s1 hg hc ht he
    have b2 := lst_to s2 hg hc ht he
    unfold bdl
    omega
theorem bdl_self (D1 D2 : List (List Int)) (t : Int) : ∀ k, bdl D1 D2 t t k = 0 := by
  intro k
  induction k with
  | zero => rfl
  | succ k ih => unfold bdl; rw [ih, lst_self, lst_self]; rfl
/-- the guesses agree -/
theorem bls_cons (hL : Lm n l ms D1 D2) (hr : ∀ v ∈ ms, 0 ≤ v ∧ v < n) (hg : NetLaw.Good n l) (hc : ∀ e ∈ l, 1 ≤ e.2.2) (ht : 0 ≤ t ∧ t < n) : Cons n t l (bls n D1 D2 t ms.length n) := by
  refine ⟨by rw [bls_len], fun x hx => ?_, ?_, fun e he => ?_⟩
  · unfold bls at hx
    rw [List.mem_map] at hx
    obtain ⟨v, hv, rfl⟩ := hx
    rw [List.mem_range] at hv
    exact bdl_bd hL ht ⟨by omega, by omega⟩ _ (Nat.le_refl _)
  · rw [dg_bls ht.1 ht.2, bdl_self]
  · obtain ⟨a0, a1, b0, b1⟩ := hg.ends e he
    rw [dg_bls a0 a1, dg_bls b0 b1]
    exact bdl_edge hL hr hg hc ht he _ (Nat.le_refl _)
/-- more landmarks: no less; the end itself among them: what it costs -/
theorem bdl_more {D1' D2' : List (List Int)} {v : Int} (k : Nat) (h : ∀ i, i < k → dg (D1.getD i []) v = dg (D1'.getD i []) v ∧ dg (D1.getD i []) t = dg (D1'.getD i []) t ∧ dg (D2.getD i []) v = dg (D2'.getD i []) v ∧ dg (D2.getD i []) t = dg (D2'.getD i []) t) : bdl D1 D2 v t k = bdl D1' D2' v t k := by
  induction k with
  | zero => rfl
  | succ k ih =>
    obtain ⟨a, b, c, d⟩ := h k (Nat.lt_succ_self _)
    unfold bdl
    rw [ih fun i hi => h i (by omega), a, b, c, d]
end
end Go.Proofs.Ytbgkkmcobijkgaa.HeurLaw
