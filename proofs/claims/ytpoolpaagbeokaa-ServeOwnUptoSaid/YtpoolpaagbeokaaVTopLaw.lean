/- Plain facts on walks and their parts, and what begun answers. -/
import Derived.Test.YtpoolpaagbeokaaVWayUse
import Derived.Test.YtpoolpaagbeokaaVWalkCost
import Derived.Test.YtpoolpaagbeokaaVWalkJoin
namespace Go.Proofs.Ytpoolpaagbeokaa.TopLaw
open Go.RowKit Go.Proofs.Ytpoolpaagbeokaa NetLaw BellLaw DijkLaw WayLaw WalkLaw Go.Proofs.Ytpoolpaagbeokaa.Net Go.Proofs.Ytpoolpaagbeokaa.Std Go.Proofs.Ytpoolpaagbeokaa.Dijk Go.Proofs.Ytpoolpaagbeokaa.DijkWay Go.Proofs.Ytpoolpaagbeokaa.DijkTwo Go.Proofs.Ytpoolpaagbeokaa.WayUse
set_option linter.unusedSimpArgs false
set_option linter.unusedVariables false
theorem eg_edge {l : List E} {a b : Int} (h : (eg l a b).2 = true) : ∃ e ∈ l, e.1 = a ∧ e.2.1 = b ∧ e.2.2 = (eg l a b).1 := by
  obtain ⟨_, _, h3⟩ := eg_fold a b l (0, false)
  rcases h3 with h3 | ⟨e, he, h1, h2, h4⟩
  · have : eg l a b = (0, false) := h3
    rw [this] at h
    cases h
  · have : eg l a b = (e.2.2, true) := h4
    exact ⟨e, he, h1, h2, by rw [this]⟩
theorem walk_wk {l : List E} (p : List Int) (x y : Int) (hx : p.head? = some x) (hy : p.getLast? = some y) (hok : okP l (prs p) = true) : Wk l x y (sumP l (prs p)) := by
  induction p generalizing x with
  | nil => simp at hx
  | cons a r ih =>
    simp at hx
    subst hx
    cases r with
    | nil =>
      simp at hy
      subst hy
      exact Wk.here
    | cons b r =>
      rw [prs_cons] at hok ⊢
      have s1 : okP l ((a, b) :: prs (b :: r)) = ((eg l a b).2 && okP l (prs (b :: r))) := by simp [okP]
      have s2 : sumP l ((a, b) :: prs (b :: r)) = (eg l a b).1 + sumP l (prs (b :: r)) := by simp [sumP]
      rw [s1, Bool.and_eq_true] at hok
      obtain ⟨e, he, h1, h2, h3⟩ := eg_edge hok.1
      have ih2 := ih b rfl (by simpa using hy) hok.2
      have hs := Wk.step (l := l) (fr := a) (e := e) Wk.here he h1
      rw [h2, Int.zero_add] at hs
      have hj := DijkMorePlain.wk_join hs ih2
      rw [s2, ← h3]
      exact hj
/-- what a right walk's cost says of its ends and its middle -/
structure Mid (N : Int) (l : List E) (p : List Int) (i : Nat) (x d1 d2 : Int) : Prop where
  one : 1 ≤ p.length
  len : p.length ≤ 100
  hi : i < p.length
  w1 : ∀ (h0 : 0 < p.length) (hi : i < p.length), Wk l p[0] p[i] d1
  w2 : ∀ (hi : i < p.length) (hl : p.length - 1 < p.length), Wk l p[i] (p[p.length - 1]) d2
  sum : x = d1 + d2
  rng : ∀ v ∈ p, 0 ≤ v ∧ v < N
  good : NetLaw.Good N l
theorem mid_of {N : Int} {l : List E} {p : List Int} {x : Int} (h : cost N l p = (x, 0)) : ∃ d1 d2, Mid N l p (p.length / 2) x d1 d2 := by
  have h2 : (cost N l p).2 = 0 := by rw [h]
  obtain ⟨c1, c2, c3, c4, c5⟩ := cost_zero.1 h2
  have hx : x = sumP l (prs p) := by
    have := cost_val (N := N) (l := l) (p := p)
    rw [if_pos h2, h] at this
    exact this
  have hi : p.length / 2 < p.length := by omega
  have hsplit : p = p.take (p.length / 2) ++ p[p.length / 2] :: p.drop (p.length / 2 + 1) := by
    rw [List.getElem_cons_drop, List.take_append_drop]
  have hprs := prs_join (p.take (p.length / 2)) p[p.length / 2] (p.drop (p.length / 2 + 1))
  rw [← hsplit] at hprs
  rw [hprs, okP_append, Bool.and_eq_true] at c5
  rw [hprs, sumP_append] at hx
  refine ⟨_, _, by omega, c3, hi, fun h0 _ => walk_wk _ _ _ ?_ (by rw [List.getLast?_append]; rfl) c5.1, fun _ hl => walk_wk _ _ _ rfl ?_ c5.2, hx, fun v hv => ?_, chk_zero.1 c1⟩
  · rw [List.take_append_getElem, List.head?_take, if_neg (by omega), List.head?_eq_getElem?, List.getElem?_eq_getElem h0]
  · rw [List.getElem_cons_drop, List.getLast?_drop, if_neg (by omega), List.getLast?_eq_getElem?, List.getElem?_eq_getElem hl]
  · rw [List.any_eq_false] at c4
    have := c4 v hv
    simp [outB] at this
    exact this
/-- the least ways, each against the walk's part -/
theorem joined {N : Int} {n : Nat} {l : List E} {D1 D2 : List Int} {f m t : Int} {pa pb : List Int} (hN : N = n) (hg : NetLaw.Good N l) (hD1 : Sh N f l D1) (hD2 : Sh N m l D2) (hf1 : Wy n l D1 f m pa) (hf2 : Wy n l D2 m t pb) : Walk.fit pa pb ∧ ((pa ++ pb.tail).length ≤ 100 → cost N l (pa ++ pb.tail) = (dg D1 m + dg D2 t, 0)) ∧ (pa ++ pb.tail).length ≤ 200 := by
  subst hN
  have hn := hg.hi
  have hla := hf1.len
  have hlb := hf2.len
  obtain ⟨nf, rfl⟩ : ∃ nf : Nat, f = nf := by
    have h := hf1.rng f (List.mem_of_mem_head? hf1.head)
    exact Int.eq_ofNat_of_zero_le h.1
  obtain ⟨nm, rfl⟩ : ∃ nf : Nat, m = nf := by
    have h := hf2.rng m (List.mem_of_mem_head? hf2.head)
    exact Int.eq_ofNat_of_zero_le h.1
  have ca := cost_of hD1 hg pa _ _ hf1.head hf1.last (by omega) hf1.rng hf1.link
  have cb := cost_of hD2 hg pb _ _ hf2.head hf2.last (by omega) hf2.rng hf2.link
  rw [hD1.st, Int.sub_zero] at ca
  rw [hD2.st, Int.sub_zero] at cb
  refine ⟨⟨fun e => by rw [e] at hla; simp at hla, fun e => by rw [e] at hlb; simp at hlb, by rw [hf1.last, hf2.head]⟩, fun hlen => ?_, by rw [List.length_append, List.length_tail]; omega⟩
  obtain ⟨a', rfl⟩ : ∃ a', pa = a' ++ [(nm : Int)] := by
    have h := hf1.last
    rw [List.getLast?_eq_some_iff] at h
    exact h
  obtain ⟨b', rfl⟩ : ∃ b', pb = (nm : Int) :: b' := by
    have h := hf2.head
    cases pb with
    | nil => simp at h
    | cons x r => simp at h; exact ⟨r, by rw [h]⟩
  rw [List.tail_cons, List.append_assoc, List.singleton_append] at hlen ⊢
  obtain ⟨j1, j2⟩ := cost_join (N := (n : Int)) (l := l) a' (nm : Int) b' hlen
  have h0 : (cost (n : Int) l (a' ++ (nm : Int) :: b')).2 = 0 := j1.2 ⟨by rw [ca], by rw [cb]⟩
  have h1 := j2 h0
  rw [ca, cb] at h1
  exact Prod.ext h1 h0
theorem look01 : Dijk.look 2 [(0, 1, 5)] [0, 1] = 0 := by decide +kernel
end Go.Proofs.Ytpoolpaagbeokaa.TopLaw
