/- Plain: where each edge costs at least 1 the rounds end with nothing changed. -/
import Derived.Test.YtjebckehmmbkbaaVBellSh
namespace Go.Proofs.Ytjebckehmmbkbaa.BellSh
open NetLaw BellLaw DijkLaw Go.Proofs.Ytjebckehmmbkbaa.Bell
set_option linter.unusedSimpArgs false
set_option linter.unusedVariables false
/-- how many places cost less than v -/
def rank (n : Nat) (Z : List Int) (v : Int) : Nat := (List.range n).countP fun (u : Nat) => decide (dg Z (u : Int) < dg Z v)
theorem rank_lt {n : Nat} {Z : List Int} {u v : Int} (hu : 0 ≤ u ∧ u < n) (h : dg Z u < dg Z v) : rank n Z u < rank n Z v := by
  unfold rank
  have h1 : (List.range n).countP (fun (x : Nat) => decide (dg Z (x : Int) < dg Z v)) = (List.range n).countP (fun (x : Nat) => decide (dg Z (x : Int) < dg Z u)) + (List.range n).countP (fun (x : Nat) => decide (dg Z u ≤ dg Z (x : Int) ∧ dg Z (x : Int) < dg Z v)) := by
    induction List.range n with
    | nil => rfl
    | cons a r ih =>
      rw [List.countP_cons, List.countP_cons, List.countP_cons, ih]
      by_cases c1 : dg Z (a : Int) < dg Z u
      · have c2 : dg Z (a : Int) < dg Z v := by omega
        have c4 : ¬ dg Z u ≤ dg Z (a : Int) := by omega
        simp [c1, c2, c4]
        omega
      · by_cases c2 : dg Z (a : Int) < dg Z v
        · have c3 : dg Z u ≤ dg Z (a : Int) := by omega
          simp [c1, c2, c3]
          omega
        · simp [c1, c2]
  have h2 : 0 < (List.range n).countP (fun (x : Nat) => decide (dg Z u ≤ dg Z (x : Int) ∧ dg Z (x : Int) < dg Z v)) := by
    rw [List.countP_pos_iff]
    refine ⟨u.toNat, by rw [List.mem_range]; omega, ?_⟩
    have e : ((u.toNat : Nat) : Int) = u := Int.toNat_of_nonneg hu.1
    rw [e]
    simp [h]
  omega
theorem rank_le {n : Nat} {Z : List Int} {v : Int} (hv : 0 ≤ v ∧ v < n) : rank n Z v + 1 ≤ n := by
  unfold rank
  have h1 := List.countP_le_length (p := fun (u : Nat) => decide (dg Z (u : Int) < dg Z v)) (l := List.range n)
  have h2 : (List.range n).countP (fun (u : Nat) => decide (dg Z (u : Int) < dg Z v)) ≠ (List.range n).length := fun h => by
    rw [List.countP_eq_length] at h
    have := h v.toNat (by rw [List.mem_range]; omega)
    have e : ((v.toNat : Nat) : Int) = v := Int.toNat_of_nonneg hv.1
    rw [e] at this
    simp at this
  rw [List.length_range] at h1 h2
  omega
theorem pred {n fr : Nat} {l : List E} {Z : List Int} (hZ : Sh n fr l Z) (hends : ∀ e ∈ l, 0 ≤ e.1 ∧ e.1 < n ∧ 0 ≤ e.2.1 ∧ e.2.1 < n) (hc : ∀ e ∈ l, 1 ≤ e.2.2) {v : Int} (hv : 0 ≤ v ∧ v < n) (hfar : dg Z v < far) (hne : v ≠ fr) : ∃ e ∈ l, e.2.1 = v ∧ dg Z e.1 + e.2.2 = dg Z v ∧ dg Z e.1 < dg Z v := by
  have hw := hZ.wk v hv.1 hv.2 hfar
  have gen : ∀ d, Wk l fr v d → d = dg Z v → ∃ e ∈ l, e.2.1 = v ∧ dg Z e.1 + e.2.2 = dg Z v ∧ dg Z e.1 < dg Z v := by
    intro d hw hd
    cases hw with
    | here => exact absurd rfl hne
    | step hu he hf =>
      have c := hc _ he
      have h1 := hZ.walk_le hends hu (by omega) (fun e he => by have := hc e he; omega)
      rw [← hf] at h1
      have h2 := hZ.still _ he (by omega)
      exact ⟨_, he, rfl, by omega, by omega⟩
  exact gen _ hw rfl
/-- the k nearest are as they will be, and none is nearer than it will be -/
structure Fin (n : Nat) (Z : List Int) (k : Nat) (D : List Int) : Prop where
  len : D.length = n
  lo : ∀ v : Int, 0 ≤ v → v < n → dg Z v ≤ dg D v
  fin : ∀ v : Int, 0 ≤ v → v < n → rank n Z v ≤ k → dg D v = dg Z v
theorem rx_len (s : St) (e : E) : (rx s e).1.length = s.1.length := by unfold rx; split <;> simp
theorem rx_fin {n fr : Nat} {l : List E} {Z : List Int} {k : Nat} {s : St} {e : E} (hZ : Sh n fr l Z) (h : Fin n Z k s.1) (he : e ∈ l) (hends : ∀ e ∈ l, 0 ≤ e.1 ∧ e.1 < n ∧ 0 ≤ e.2.1 ∧ e.2.1 < n) :
    Fin n Z k (rx s e).1 ∧ (∀ v : Int, 0 ≤ v → v < n → dg (rx s e).1 v ≤ dg s.1 v) ∧ (rank n Z e.1 ≤ k → dg Z e.1 < far → dg (rx s e).1 e.2.1 ≤ dg Z e.1 + e.2.2) := by
  obtain ⟨a0, a1, b0, b1⟩ := hends e he
  have hl := h.len
  have l1 := h.lo e.1 a0 a1
  unfold rx
  by_cases hc : dg s.1 e.1 < far ∧ dg s.1 e.1 + e.2.2 < dg s.1 e.2.1
  · rw [if_pos hc]
    have hs := fun v hv => dg_set (D := s.1) (t := e.2.1) (v := v) (x := dg s.1 e.1 + e.2.2) b0 (by omega) hv
    have hst := hZ.still e he (by omega)
    refine ⟨⟨by simpa using hl, fun v v0 v1 => ?_, fun v v0 v1 hr => ?_⟩, fun v v0 v1 => ?_, fun hr _ => ?_⟩
    · rw [hs v v0]; split
      · rename_i x; rw [x]; omega
      · exact h.lo v v0 v1
    · rw [hs v v0]; split
      · rename_i x
        have := h.fin v v0 v1 hr
        rw [x] at this ⊢
        omega
      · exact h.fin v v0 v1 hr
    · rw [hs v v0]; split
      · rename_i x; rw [x]; omega
      · exact Int.le_refl _
    · rw [hs _ b0, if_pos rfl, h.fin _ a0 a1 hr]
      exact Int.le_refl _
  · rw [if_neg hc]
    refine ⟨h, fun v _ _ => Int.le_refl _, fun hr hf => ?_⟩
    have := h.fin _ a0 a1 hr
    omega
theorem fold_fin {n fr : Nat} {l : List E} {Z : List Int} {k : Nat} (hZ : Sh n fr l Z) (hends : ∀ e ∈ l, 0 ≤ e.1 ∧ e.1 < n ∧ 0 ≤ e.2.1 ∧ e.2.1 < n) (r : List E) (hr : ∀ e ∈ r, e ∈ l) (s : St) (h : Fin n Z k s.1) :
    Fin n Z k (r.foldl rx s).1 ∧ (∀ v : Int, 0 ≤ v → v < n → dg (r.foldl rx s).1 v ≤ dg s.1 v) ∧ ∀ e ∈ r, rank n Z e.1 ≤ k → dg Z e.1 < far → dg (r.foldl rx s).1 e.2.1 ≤ dg Z e.1 + e.2.2 := by
  induction r generalizing s with
  | nil => exact ⟨h, fun v _ _ => Int.le_refl _, fun e he => by cases he⟩
  | cons a r ih =>
    obtain ⟨f1, f2, f3⟩ := rx_fin hZ h (hr a (List.mem_cons_self ..)) hends
    obtain ⟨g1, g2, g3⟩ := ih (fun e he => hr e (List.mem_cons_of_mem _ he)) (rx s a) f1
    rw [List.foldl_cons]
    refine ⟨g1, fun v v0 v1 => Int.le_trans (g2 v v0 v1) (f2 v v0 v1), fun e he h1 h2 => ?_⟩
    rcases List.mem_cons.1 he with x | x
    · subst x
      obtain ⟨_, _, b0, b1⟩ := hends e (hr e (List.mem_cons_self ..))
      exact Int.le_trans (g2 _ b0 b1) (f3 h1 h2)
    · exact g3 e x h1 h2
/-- one round more makes one rank more right -/
theorem pass_fin {n fr : Nat} {l : List E} {Z : List Int} {k : Nat} (hZ : Sh n fr l Z) (hends : ∀ e ∈ l, 0 ≤ e.1 ∧ e.1 < n ∧ 0 ≤ e.2.1 ∧ e.2.1 < n) (hc : ∀ e ∈ l, 1 ≤ e.2.2) (s : St) (h : Fin n Z k s.1) (h0 : dg s.1 fr = dg Z fr) (hhi : ∀ v : Int, 0 ≤ v → v < n → dg s.1 v ≤ far) (hfr : fr < n) : Fin n Z (k + 1) (pass l s).1 ∧ dg (pass l s).1 fr = dg Z fr ∧ ∀ v : Int, 0 ≤ v → v < n → dg (pass l s).1 v ≤ far := by
  obtain ⟨f1, f2, f3⟩ := fold_fin hZ hends l (fun _ he => he) (s.1, s.2.1, -1) h
  have p1 : Fin n Z k (pass l s).1 := f1
  have hle : ∀ v : Int, 0 ≤ v → v < n → dg (pass l s).1 v ≤ dg s.1 v := f2
  have hfr' : dg (pass l s).1 fr = dg Z fr := by
    have a := p1.lo fr (by omega) (by omega)
    have b := hle fr (by omega) (by omega)
    omega
  refine ⟨⟨p1.len, p1.lo, fun v v0 v1 hr => ?_⟩, hfr', fun v v0 v1 => Int.le_trans (hle v v0 v1) (hhi v v0 v1)⟩
  have hlo := p1.lo v v0 v1
  by_cases hvf : v = fr
  · rw [hvf]; exact hfr'
  · by_cases hfar : dg Z v < far
    · obtain ⟨e, he, e1, e2, e3⟩ := pred hZ hends hc ⟨v0, v1⟩ hfar hvf
      obtain ⟨a0, a1, _, _⟩ := hends e he
      have hrk := rank_lt ⟨a0, a1⟩ e3
      have := f3 e he (by omega) (by omega)
      have h9 : dg (pass l s).1 e.2.1 ≤ dg Z e.1 + e.2.2 := this
      rw [e1] at h9
      omega
    · have a := hle v v0 v1
      have b := hhi v v0 v1
      omega
theorem fold_none (l : List E) (s : St) (h : ∀ e ∈ l, ¬ (dg s.1 e.1 < far ∧ dg s.1 e.1 + e.2.2 < dg s.1 e.2.1)) : l.foldl rx s = s := by
  induction l with
  | nil => rfl
  | cons e r ih =>
    have e1 : rx s e = s := by rw [rx, if_neg (h e (List.mem_cons_self ..))]
    rw [List.foldl_cons, e1]
    exact ih (fun x hx => h x (List.mem_cons_of_mem _ hx))
theorem relax_ends {n fr : Nat} {l : List E} {Z : List Int} (hZ : Sh n fr l Z) (hends : ∀ e ∈ l, 0 ≤ e.1 ∧ e.1 < n ∧ 0 ≤ e.2.1 ∧ e.2.1 < n) (hc : ∀ e ∈ l, 1 ≤ e.2.2) (hfr : fr < n) (k : Nat) (hk : 0 < k) (j : Nat) (hj : n ≤ j + k) (s : St) (h : Fin n Z j s.1) (h0 : dg s.1 fr = dg Z fr) (hhi : ∀ v : Int, 0 ≤ v → v < n → dg s.1 v ≤ far) : (relax l k s).2.2 < 0 := by
  induction k generalizing j s with
  | zero => omega
  | succ k ih =>
    rw [relax]
    by_cases hp : (pass l s).2.2 < 0
    · rw [if_pos hp]; exact hp
    · rw [if_neg hp]
      obtain ⟨f1, f2, f3⟩ := pass_fin hZ hends hc s h h0 hhi hfr
      rcases Nat.eq_zero_or_pos k with rfl | hk'
      · exfalso
        have hall : ∀ v : Int, 0 ≤ v → v < n → dg s.1 v = dg Z v := fun v v0 v1 => h.fin v v0 v1 (by have := rank_le (Z := Z) ⟨v0, v1⟩; omega)
        have hnone := fold_none l (s.1, s.2.1, -1) (fun e he hh => by
          obtain ⟨a0, a1, b0, b1⟩ := hends e he
          simp only at hh
          rw [hall _ a0 a1, hall _ b0 b1] at hh
          have := hZ.still e he hh.1
          omega)
        have e : pass l s = (s.1, s.2.1, -1) := hnone
        rw [e] at hp
        exact hp (show (-1 : Int) < 0 by decide)
      · exact ih hk' (j + 1) (by omega) _ f1 f2 f3
/-- Bellman's rounds end, and answer what Dijkstra's running answers -/
theorem bell_ok {n fr : Nat} {l : List E} {Z : List Int} (hg : NetLaw.Good n l) (hf : fr < n) (hc : ∀ e ∈ l, 1 ≤ e.2.2) (hZ : Sh n fr l Z) : (rl n l fr).2.2 < 0 ∧ (rl n l fr).1 = Z := by
  have hn := hg.lo
  have hst := fun v v0 v1 => dg_start hf v v0 v1
  have hz : (rl n l fr).2.2 < 0 := by
    refine relax_ends hZ hg.ends hc hf n (by omega) 0 (by omega) _ ⟨start_len n fr, fun v v0 v1 => ?_, fun v v0 v1 hr => ?_⟩ ?_ (fun v v0 v1 => ?_)
    · rw [hst v v0 v1]; split
      · rename_i e; rw [e, hZ.st]; exact Int.le_refl _
      · exact (hZ.lo v v0 v1).2
    · rw [hst v v0 v1]; split
      · rename_i e; rw [e, hZ.st]
      · rename_i e
        exfalso
        have : dg Z (fr : Int) < dg Z v := by
          rw [hZ.st]
          by_cases hv : dg Z v < far
          · obtain ⟨x, hx, x1, x2, x3⟩ := pred hZ hg.ends hc ⟨v0, v1⟩ hv e
            have := (hZ.lo x.1 (hg.ends x hx).1 (hg.ends x hx).2.1).1
            omega
          · unfold far at hv; omega
        have := rank_lt (n := n) ⟨by omega, by omega⟩ this
        omega
    · rw [hst _ (by omega) (by omega), if_pos rfl, hZ.st]
    · rw [hst v v0 v1]; unfold far; split <;> omega
  exact ⟨hz, (bell_sh hg hf hz (fun e he => by have := hc e he; omega)).unique hZ hg.ends (fun e he => by have := hc e he; omega)⟩
end Go.Proofs.Ytjebckehmmbkbaa.BellSh
