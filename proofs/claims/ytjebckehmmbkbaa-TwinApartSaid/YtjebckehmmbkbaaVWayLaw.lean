/- Plain facts on shortest walks that go back from their end: no Go in sight. -/
import Derived.Test.YtjebckehmmbkbaaVDijkMoreLaw
import Derived.Test.YtjebckehmmbkbaaVFloydLaw
import Derived.Test.YtjebckehmmbkbaaVBellEnds
import Derived.Test.YtjebckehmmbkbaaVKit
namespace Go.Proofs.Ytjebckehmmbkbaa.WayLaw
open NetLaw BellLaw DijkLaw WalkLaw
set_option linter.unusedSimpArgs false
set_option linter.unusedVariables false
/-- the least place from which v is come to for just what it costs -/
def pvS (D : List Int) (v : Int) (u : Int) (e : E) : Int := if e.2.1 = v ∧ dg D e.1 + e.2.2 = dg D v then min u e.1 else u
def pv (N : Int) (l : List E) (D : List Int) (v : Int) : Int := l.foldl (pvS D v) N
theorem pv_succ (N : Int) (l : List E) (D : List Int) (v : Int) (k : Nat) (h : k < l.length) : pv N (l.take (k + 1)) D v = pvS D v (pv N (l.take k) D v) l[k] := by
  unfold pv
  rw [List.take_succ_eq_append_getElem h, List.foldl_append]
  rfl
def Lk (l : List E) (D : List Int) (u v : Int) : Prop := ∃ e ∈ l, e.1 = u ∧ e.2.1 = v ∧ dg D u + e.2.2 = dg D v
theorem pv_fold {D : List Int} {v : Int} (r l : List E) (hr : ∀ e ∈ r, e ∈ l) (u : Int) : r.foldl (pvS D v) u ≤ u ∧ (r.foldl (pvS D v) u = u ∨ Lk l D (r.foldl (pvS D v) u) v) ∧ ∀ e ∈ r, e.2.1 = v → dg D e.1 + e.2.2 = dg D v → r.foldl (pvS D v) u ≤ e.1 := by
  induction r generalizing u with
  | nil => exact ⟨Int.le_refl _, .inl rfl, by simp⟩
  | cons e r ih =>
    obtain ⟨h1, h2, h3⟩ := ih (fun x hx => hr x (by simp [hx])) (pvS D v u e)
    have hs : pvS D v u e ≤ u := by unfold pvS; split <;> omega
    refine ⟨Int.le_trans h1 hs, ?_, fun x hx a b => ?_⟩
    · rcases h2 with h2 | h2
      · rw [List.foldl_cons, h2]
        unfold pvS
        split
        · rename_i c
          rcases Int.le_total u e.1 with d | d
          · left; omega
          · right
            rw [Int.min_eq_right d]
            exact ⟨e, hr e (by simp), rfl, c.1, c.2⟩
        · left; rfl
      · exact .inr h2
    · rcases List.mem_cons.1 hx with rfl | hx
      · refine Int.le_trans h1 ?_
        unfold pvS
        rw [if_pos ⟨a, b⟩]
        omega
      · exact h3 x hx a b
theorem pv_spec {n : Nat} {l : List E} {D : List Int} {fr : Nat} {v : Int} (hD : Sh n fr l D) (hg : NetLaw.Good n l) (hc : ∀ e ∈ l, 1 ≤ e.2.2) (hv : 0 ≤ v ∧ v < n) (hfar : dg D v < far) (hne : v ≠ fr) : Lk l D (pv n l D v) v ∧ 0 ≤ pv n l D v ∧ pv n l D v < n ∧ dg D (pv n l D v) < dg D v := by
  obtain ⟨e, he, h1, h2, h3⟩ := BellSh.pred hD hg.ends hc hv hfar hne
  obtain ⟨a, b, c⟩ := pv_fold (D := D) (v := v) l l (fun _ h => h) n
  have hlt := c e he h1 h2
  have hen := hg.ends e he
  have hL : Lk l D (pv n l D v) v := by
    rcases b with b | b
    · have : l.foldl (pvS D v) (n : Int) = n := b
      omega
    · exact b
  obtain ⟨x, hx, x1, x2, x3⟩ := hL
  have := hg.ends x hx
  have := hc x hx
  exact ⟨⟨x, hx, x1, x2, x3⟩, by omega, by omega, by omega⟩
/-- the way back so far: b from 'to' to v -/
structure Bk (n : Nat) (l : List E) (D : List Int) (to v : Int) (b : List Int) : Prop where
  head : b.head? = some to
  last : b.getLast? = some v
  rng : ∀ x ∈ b, 0 ≤ x ∧ x < n ∧ dg D v ≤ dg D x ∧ dg D x < far
  link : ∀ q ∈ prs b, Lk l D q.2 q.1
  nd : b.Nodup
theorem prs_snoc {b : List Int} {v : Int} (h : b.getLast? = some v) (u : Int) : prs (b ++ [u]) = prs b ++ [(v, u)] := by
  obtain ⟨a, rfl⟩ : ∃ a, b = a ++ [v] := by
    rw [List.getLast?_eq_some_iff] at h
    exact h
  rw [List.append_assoc, List.singleton_append, prs_join a v [u]]
  rfl
theorem Bk.one {n : Nat} {l : List E} {D : List Int} {to : Int} (h : 0 ≤ to ∧ to < n) (hf : dg D to < far) : Bk n l D to to [to] :=
  ⟨rfl, rfl, fun x hx => by simp at hx; subst hx; exact ⟨h.1, h.2, Int.le_refl _, hf⟩, fun q hq => by simp [prs] at hq, by simp⟩
theorem Bk.add {n : Nat} {l : List E} {D : List Int} {to v u : Int} {b : List Int} (h : Bk n l D to v b) (hL : Lk l D u v) (hu : 0 ≤ u ∧ u < n) (hlt : dg D u < dg D v) (hvf : dg D v < far) : Bk n l D to u (b ++ [u]) := by
  refine ⟨?_, by simp, fun x hx => ?_, fun q hq => ?_, ?_⟩
  · have := h.head
    cases b with
    | nil => simp at this
    | cons a r => simpa using this
  · rcases List.mem_append.1 hx with hx | hx
    · obtain ⟨a, b, c, d⟩ := h.rng x hx
      exact ⟨a, b, by omega, d⟩
    · simp at hx; subst hx; exact ⟨hu.1, hu.2, Int.le_refl _, by omega⟩
  · rw [prs_snoc h.last] at hq
    rcases List.mem_append.1 hq with hq | hq
    · exact h.link q hq
    · simp at hq; subst hq; exact hL
  · rw [List.nodup_append]
    refine ⟨h.nd, by simp, fun x hx y hy e => ?_⟩
    simp at hy
    subst hy
    subst e
    have := (h.rng x hx).2.2.1
    omega
theorem Bk.len {n : Nat} {l : List E} {D : List Int} {to v : Int} {b : List Int} (h : Bk n l D to v b) : b.length ≤ n ∧ 1 ≤ b.length := by
  have h1 : (b.map Int.toNat).Nodup := by
    rw [List.Nodup, List.pairwise_map]
    refine List.Pairwise.imp_of_mem (fun {x y} hx hy hxy e => hxy ?_) h.nd
    have := (h.rng x hx).1
    have := (h.rng y hy).1
    omega
  have h2 := FloydLaw.nodup_len h1 (k := n) (fun m hm => by
    rw [List.mem_map] at hm
    obtain ⟨x, hx, rfl⟩ := hm
    have := h.rng x hx
    omega)
  rw [List.length_map] at h2
  refine ⟨h2, ?_⟩
  have := h.head
  cases b with
  | nil => simp at this
  | cons a r => simp
theorem prs_rev (b : List Int) : prs b.reverse = (prs b).reverse.map fun q => (q.2, q.1) := by
  induction b with
  | nil => rfl
  | cons x r ih =>
    cases r with
    | nil => rfl
    | cons y r =>
      have hl : (y :: r).reverse.getLast? = some y := by simp
      have e1 : (x :: y :: r).reverse = (y :: r).reverse ++ [x] := List.reverse_cons
      have e2 : ((x, y) :: prs (y :: r)).reverse = (prs (y :: r)).reverse ++ [(x, y)] := List.reverse_cons
      rw [e1, prs_cons, e2, List.map_append, ← ih, prs_snoc hl]
      rfl
/-- a way: a shortest walk from fr to 'to' -/
structure Wy (n : Nat) (l : List E) (D : List Int) (fr to : Int) (p : List Int) : Prop where
  head : p.head? = some fr
  last : p.getLast? = some to
  rng : ∀ x ∈ p, 0 ≤ x ∧ x < n ∧ dg D x < far
  link : ∀ q ∈ prs p, Lk l D q.1 q.2
  nd : p.Nodup
  len : p.length ≤ n ∧ 1 ≤ p.length
theorem Bk.way {n : Nat} {l : List E} {D : List Int} {to fr : Int} {b : List Int} (h : Bk n l D to fr b) : Wy n l D fr to b.reverse := by
  refine ⟨by rw [List.head?_reverse]; exact h.last, by rw [List.getLast?_reverse]; exact h.head, fun x hx => ?_, fun q hq => ?_, by rw [List.Nodup, List.pairwise_reverse]; exact h.nd.imp (fun h e => h e.symm), by rw [List.length_reverse]; exact h.len⟩
  · have := h.rng x (List.mem_reverse.1 hx)
    exact ⟨this.1, this.2.1, this.2.2.2⟩
  · rw [prs_rev, List.mem_map] at hq
    obtain ⟨q', hq', rfl⟩ := hq
    exact h.link q' (List.mem_reverse.1 hq')
/-- the least edge between two places -/
theorem eg_fold (a b : Int) (r : List E) (s : Int × Bool) : (s.2 = true → (r.foldl (egS a b) s).2 = true ∧ (r.foldl (egS a b) s).1 ≤ s.1) ∧ (∀ e ∈ r, e.1 = a → e.2.1 = b → (r.foldl (egS a b) s).2 = true ∧ (r.foldl (egS a b) s).1 ≤ e.2.2) ∧ (r.foldl (egS a b) s = s ∨ ∃ e ∈ r, e.1 = a ∧ e.2.1 = b ∧ r.foldl (egS a b) s = (e.2.2, true)) := by
  induction r generalizing s with
  | nil => exact ⟨fun h => ⟨h, Int.le_refl _⟩, by simp, .inl rfl⟩
  | cons e r ih =>
    obtain ⟨h1, h2, h3⟩ := ih (egS a b s e)
    rw [List.foldl_cons]
    by_cases hc : e.1 = a ∧ e.2.1 = b ∧ (s.2 = false ∨ e.2.2 < s.1)
    · have hs : egS a b s e = (e.2.2, true) := by unfold egS; rw [if_pos hc]
      rw [hs] at h1 h2 h3 ⊢
      obtain ⟨p1, p2⟩ := h1 rfl
      refine ⟨fun hs2 => ⟨p1, ?_⟩, fun x hx xa xb => ?_, .inr ?_⟩
      · rcases hc.2.2 with h | h
        · rw [h] at hs2; cases hs2
        · simp only at p2; omega
      · rcases List.mem_cons.1 hx with rfl | hx
        · exact ⟨p1, p2⟩
        · exact h2 x hx xa xb
      · rcases h3 with h | ⟨x, hx, r1⟩
        · exact ⟨e, by simp, hc.1, hc.2.1, h⟩
        · exact ⟨x, by simp [hx], r1⟩
    · have hs : egS a b s e = s := by unfold egS; rw [if_neg hc]
      rw [hs] at h1 h2 h3 ⊢
      refine ⟨h1, fun x hx xa xb => ?_, ?_⟩
      · rcases List.mem_cons.1 hx with rfl | hx
        · have hs2 : s.2 = true := by
            cases hb : s.2 with
            | true => rfl
            | false => exact absurd ⟨xa, xb, .inl hb⟩ hc
          obtain ⟨p1, p2⟩ := h1 hs2
          refine ⟨p1, ?_⟩
          have : ¬ x.2.2 < s.1 := fun h => hc ⟨xa, xb, .inr h⟩
          omega
        · exact h2 x hx xa xb
      · rcases h3 with h | ⟨x, hx, r1⟩
        · exact .inl h
        · exact .inr ⟨x, by simp [hx], r1⟩
theorem eg_link {n : Nat} {l : List E} {D : List Int} {fr : Nat} {u v : Int} (hD : Sh n fr l D) (hu : dg D u < far) (h : Lk l D u v) : eg l u v = (dg D v - dg D u, true) := by
  obtain ⟨e, he, h1, h2, h3⟩ := h
  obtain ⟨_, a, b⟩ := eg_fold u v l (0, false)
  obtain ⟨a1, a2⟩ := a e he h1 h2
  unfold eg
  rcases b with b | ⟨x, hx, x1, x2, x3⟩
  · rw [b] at a1; cases a1
  · rw [x3] at a2 ⊢
    have := hD.still x hx (by rw [x1]; exact hu)
    rw [x1, x2] at this
    simp only at a2
    have : x.2.2 = dg D v - dg D u := by omega
    rw [this]
/-- a walk along the links costs the difference -/
theorem links_cost {n : Nat} {l : List E} {D : List Int} {fr : Nat} (hD : Sh n fr l D) (p : List Int) (x y : Int) (hx : p.head? = some x) (hy : p.getLast? = some y) (hf : ∀ z ∈ p, dg D z < far) (hl : ∀ q ∈ prs p, Lk l D q.1 q.2) :
    okP l (prs p) = true ∧ sumP l (prs p) = dg D y - dg D x := by
  induction p generalizing x with
  | nil => simp at hx
  | cons a r ih =>
    simp at hx
    subst hx
    cases r with
    | nil =>
      simp at hy
      subst hy
      simp [prs, okP, sumP]
    | cons b r =>
      have hlk : Lk l D a b := hl (a, b) (by rw [prs_cons]; simp)
      have he := eg_link hD (hf a (by simp)) hlk
      obtain ⟨i1, i2⟩ := ih b rfl (by simpa using hy) (fun z hz => hf z (by simp [hz])) (fun q hq => hl q (by rw [prs_cons]; simp [hq]))
      rw [prs_cons]
      have s1 : okP l ((a, b) :: prs (b :: r)) = ((eg l a b).2 && okP l (prs (b :: r))) := by simp [okP]
      have s2 : sumP l ((a, b) :: prs (b :: r)) = (eg l a b).1 + sumP l (prs (b :: r)) := by simp [sumP]
      rw [s1, s2, he, i1, i2]
      exact ⟨rfl, by simp only; omega⟩
theorem cost_of {n : Nat} {l : List E} {D : List Int} {fr : Nat} (hD : Sh n fr l D) (hg : NetLaw.Good n l) (p : List Int) (x y : Int) (hx : p.head? = some x) (hy : p.getLast? = some y) (hn : p.length ≤ 100) (hr : ∀ z ∈ p, 0 ≤ z ∧ z < n ∧ dg D z < far) (hl : ∀ q ∈ prs p, Lk l D q.1 q.2) : cost n l p = (dg D y - dg D x, 0) := by
  obtain ⟨h1, h2⟩ := links_cost hD p x y hx hy (fun z hz => (hr z hz).2.2) hl
  have h3 : p.any (outB n) = false := by
    rw [List.any_eq_false]
    intro z hz
    have := hr z hz
    simp [outB]
    omega
  have h4 : p.length ≠ 0 := fun h => by rw [List.eq_nil_of_length_eq_zero h] at hx; simp at hx
  unfold cost
  rw [if_neg (by simpa using chk_zero.2 hg), if_neg h4, if_neg (by omega), h3, if_neg (by decide), h1, if_pos rfl, h2]
end Go.Proofs.Ytjebckehmmbkbaa.WayLaw
