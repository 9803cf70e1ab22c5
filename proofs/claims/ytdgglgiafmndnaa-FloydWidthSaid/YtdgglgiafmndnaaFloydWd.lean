/- Plain facts on widths (Floyd, Warshall): no Go in sight. -/
import Derived.Test.YtdgglgiafmndnaaFloydLaw
namespace Go.Proofs.Ytdgglgiafmndnaa.FloydLaw
open NetLaw BellLaw
set_option linter.unusedSimpArgs false
set_option linter.unusedVariables false
theorem map_eds {T U : Type} {orf : T → T → T} {orf' : U → U → U} {φ : T → U} {edge : E → T} {edge' : E → U} (h1 : ∀ a b, φ (orf a b) = orf' (φ a) (φ b)) (l : List E) (he : ∀ e ∈ l, φ (edge e) = edge' e) (M : Mx T) :
    (fun a b => φ (eds orf edge l M a b)) = eds orf' edge' l (fun a b => φ (M a b)) := by
  induction l generalizing M with
  | nil => rfl
  | cons e r ih =>
    have e1 : eds orf edge (e :: r) M = eds orf edge r (ed1 orf edge M e) := rfl
    have e2 : eds orf' edge' (e :: r) (fun a b => φ (M a b)) = eds orf' edge' r (ed1 orf' edge' (fun a b => φ (M a b)) e) := rfl
    rw [e1, e2, ih (fun x hx => he x (by simp [hx]))]
    congr 1
    funext a b
    unfold ed1 set2
    split <;> simp [h1, he e (by simp)]
/-- what holds between phases -/
structure WW (n k : Nat) (l : List E) (M : Mx Int) : Prop where
  hi : ∀ i j, M i j ≤ far
  diag : ∀ i, M i i = far
  tri : ∀ i j m, i < n → j < n → m < k → min (M i m) (M m j) ≤ M i j
  val : ∀ i j, i ≠ j → M i j = -far ∨ ∃ e ∈ l, e.2.2 = M i j
theorem WW.next {n k : Nat} {l : List E} {M : Mx Int} (h : WW n k l M) (hk : k < n) : WW n (k + 1) l (mid max min n k M n) := by
  have hv : ∀ a b, mid max min n k M n a b = if a < n ∧ b < n then max (M a b) (min (M a k) (M k b)) else M a b := fun a b => by
    rw [mid_eq max min (fun a => by omega) (fun b => by omega) n]
  generalize mid max min n k M n = M' at *
  have hv2 : ∀ a b, a < n → b < n → M' a b = max (M a b) (min (M a k) (M k b)) := fun a b ha hb => by rw [hv, if_pos ⟨ha, hb⟩]
  have hkk := h.diag k
  refine ⟨fun i j => ?_, fun i => ?_, fun i j m hi hj hm => ?_, fun i j hij => ?_⟩
  · rw [hv]
    have a := h.hi i j
    have b := h.hi i k
    split <;> omega
  · rw [hv]
    have a := h.diag i
    have b := h.hi i k
    have c := h.hi k i
    split <;> omega
  · have v1 := hv2 i j hi hj
    have v2 := hv2 i m hi (by omega)
    have v3 := hv2 m j (by omega) hj
    rcases (show m < k ∨ m = k by omega) with hm | rfl
    · have t1 := h.tri i j m hi hj hm
      have t2 := h.tri k j m hk hj hm
      have t3 := h.tri i k m hi hk hm
      omega
    · omega
  · by_cases hn : i < n ∧ j < n
    · have v1 := hv2 i j hn.1 hn.2
      have hb := h.hi k j
      have hc := h.hi i k
      have h3 : M' i j = M i j ∨ M' i j = M i k ∨ M' i j = M k j := by omega
      have a := h.val i j hij
      by_cases e1 : i = k
      · subst e1
        have : M' i j = M i j := by clear a; omega
        rw [this]; exact a
      · by_cases e2 : k = j
        · subst e2
          have : M' i k = M i k := by clear a; omega
          rw [this]; exact a
        · have b := h.val i k e1
          have c := h.val k j e2
          rcases h3 with e | e | e
          · rw [e]; exact a
          · rw [e]; exact b
          · rw [e]; exact c
    · rw [hv, if_neg hn]
      exact h.val i j hij
theorem eds_ww {n : Nat} {l : List E} (hg : NetLaw.Good n l) (r : List E) (hr : ∀ e ∈ r, e ∈ l) (M : Mx Int) (hM : WW n 0 l M) : WW n 0 l (eds max cst r M) := by
  induction r generalizing M with
  | nil => exact hM
  | cons e r ih =>
    have he := hr e (by simp)
    have hco := hg.cost e he
    have hfar : far = 1099511627776 := rfl
    refine ih (fun x hx => hr x (by simp [hx])) (ed1 max cst M e) ⟨fun i j => ?_, fun i => ?_, fun i j m _ _ hm => by omega, fun i j hij => ?_⟩
    · have a := hM.hi i j
      unfold ed1 set2 cst
      split
      · have := hM.hi e.1.toNat e.2.1.toNat
        omega
      · exact a
    · have a := hM.diag i
      unfold ed1 set2 cst
      split
      · rename_i h
        rw [← h.1, ← h.2]
        omega
      · exact a
    · have a := hM.val i j hij
      unfold ed1 set2 cst
      split
      · rename_i h
        obtain ⟨rfl, rfl⟩ := h
        rcases Int.le_total (M e.1.toNat e.2.1.toNat) e.2.2 with hle | hle
        · rw [Int.max_eq_right hle]
          exact .inr ⟨e, he, rfl⟩
        · rw [Int.max_eq_left hle]
          exact a
      · exact a
theorem ww_all {n : Nat} {l : List E} (hg : NetLaw.Good n l) (k : Nat) (hk : k ≤ n) : WW n k l (out max min n (eds max cst l (ini (-far) far)) k) := by
  induction k with
  | zero =>
    refine eds_ww hg l (fun _ h => h) _ ⟨fun i j => ?_, fun i => ?_, fun i j m _ _ hm => by omega, fun i j hij => ?_⟩
    · have := far_pos
      unfold ini
      split <;> omega
    · simp [ini]
    · left
      simp [ini, hij]
  | succ k ih => exact (ih (by omega)).next (by omega)
theorem wide_ok {n : Nat} {l : List E} (hg : NetLaw.Good n l) : WW n n l (clo max min (-far) far cst n l) := ww_all hg n (Nat.le_refl _)
/-- there is a width just where a walk leads -/
theorem wide_reach {n : Nat} {l : List E} (hg : NetLaw.Good n l) (edge : E → Bool) (hedge : ∀ e, edge e = true) (i j : Nat) : decide (-far < clo max min (-far) far cst n l i j) = clo or and false true edge n l i j := by
  have h1 : ∀ a b : Int, decide (-far < max a b) = or (decide (-far < a)) (decide (-far < b)) := fun a b => by
    rw [Bool.eq_iff_iff]; simp; omega
  have h2 : ∀ a b : Int, decide (-far < min a b) = and (decide (-far < a)) (decide (-far < b)) := fun a b => by
    rw [Bool.eq_iff_iff]; simp; omega
  have e1 := map_out (φ := fun a : Int => decide (-far < a)) h1 h2 n (eds max cst l (ini (-far) far)) n
  have e2 := map_eds (φ := fun a : Int => decide (-far < a)) (edge := cst) (edge' := edge) h1 l (fun e he => by
    have := hg.cost e he
    rw [hedge]
    exact decide_eq_true (by unfold far cst; omega)) (ini (-far) far)
  have e3 : (fun a b => decide (-far < ini (-far) far a b)) = ini false true := by
    funext a b
    have := far_pos
    unfold ini
    split
    · simp; omega
    · simp
  rw [e2, e3] at e1
  exact congrFun (congrFun e1 i) j
end Go.Proofs.Ytdgglgiafmndnaa.FloydLaw
