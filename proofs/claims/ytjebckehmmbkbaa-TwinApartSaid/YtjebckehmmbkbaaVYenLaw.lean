/- Plain facts on the best ways one after the other (Yen): no Go in sight. -/
import Derived.Test.YtjebckehmmbkbaaVWayLaw
namespace Go.Proofs.Ytjebckehmmbkbaa.YenLaw
open NetLaw BellLaw DijkLaw WalkLaw
set_option linter.unusedSimpArgs false
set_option linter.unusedVariables false
/-- the order of lists -/
def lexlt : List Int → List Int → Bool
  | _, [] => false
  | [], _ :: _ => true
  | x :: a, y :: b => decide (x < y) || (decide (x = y) && lexlt a b)
theorem lexlt_cons (x y : Int) (a b : List Int) : lexlt (x :: a) (y :: b) = true ↔ x < y ∨ x = y ∧ lexlt a b = true := by simp [lexlt]
theorem lexlt_irr (a : List Int) : lexlt a a = false := by
  induction a with
  | nil => rfl
  | cons x a ih => simp [lexlt, ih]
theorem lexlt_tri (a b : List Int) : a = b ∨ lexlt a b = true ∨ lexlt b a = true := by
  induction a generalizing b with
  | nil => cases b with
    | nil => exact .inl rfl
    | cons y b => exact .inr (.inl rfl)
  | cons x a ih => cases b with
    | nil => exact .inr (.inr rfl)
    | cons y b =>
      rw [lexlt_cons, lexlt_cons]
      rcases Int.lt_trichotomy x y with h | h | h
      · exact .inr (.inl (.inl h))
      · subst h
        rcases ih b with h | h | h
        · exact .inl (by rw [h])
        · exact .inr (.inl (.inr ⟨rfl, h⟩))
        · exact .inr (.inr (.inr ⟨rfl, h⟩))
      · exact .inr (.inr (.inl h))
theorem lexlt_trans {a b c : List Int} (h : lexlt a b = true) (h' : lexlt b c = true) : lexlt a c = true := by
  induction a generalizing b c with
  | nil => cases c with
    | nil => cases b with
      | nil => exact h'
      | cons _ _ => cases h'
    | cons _ _ => rfl
  | cons x a ih => cases b with
    | nil => cases h
    | cons y b => cases c with
      | nil => cases h'
      | cons z c =>
        rw [lexlt_cons] at h h' ⊢
        rcases h with h | ⟨rfl, h⟩
        · rcases h' with h' | ⟨rfl, h'⟩
          · exact .inl (by omega)
          · exact .inl h
        · rcases h' with h' | ⟨rfl, h'⟩
          · exact .inl h'
          · exact .inr ⟨rfl, ih h h'⟩
theorem lexlt_app (b r r' : List Int) (h : lexlt r r' = true) : lexlt (b ++ r) (b ++ r') = true := by
  induction b with
  | nil => exact h
  | cons x b ih => rw [List.cons_append, List.cons_append, lexlt_cons]; exact .inr ⟨rfl, ih⟩
/-- the order of ways: by cost, then by their places -/
def ltY (a b : Int × List Int) : Bool := decide (a.1 < b.1) || (decide (a.1 = b.1) && lexlt a.2 b.2)
theorem ltY_iff (a b : Int × List Int) : ltY a b = true ↔ a.1 < b.1 ∨ a.1 = b.1 ∧ lexlt a.2 b.2 = true := by simp [ltY]
theorem ltY_irr (a : Int × List Int) : ltY a a = false := by simp [ltY, lexlt_irr]
theorem ltY_trans {a b c : Int × List Int} (h : ltY a b = true) (h' : ltY b c = true) : ltY a c = true := by
  rw [ltY_iff] at *
  rcases h with h | ⟨h1, h2⟩ <;> rcases h' with h' | ⟨k1, k2⟩
  · exact .inl (by omega)
  · exact .inl (by omega)
  · exact .inl (by omega)
  · exact .inr ⟨by omega, lexlt_trans h2 k2⟩
theorem ltY_tri (a b : Int × List Int) : a = b ∨ ltY a b = true ∨ ltY b a = true := by
  obtain ⟨x, p⟩ := a
  obtain ⟨y, q⟩ := b
  simp only [ltY_iff]
  rcases Int.lt_trichotomy x y with h | h | h
  · exact .inr (.inl (.inl h))
  · subst h
    rcases lexlt_tri p q with h | h | h
    · exact .inl (by rw [h])
    · exact .inr (.inl (.inr ⟨rfl, h⟩))
    · exact .inr (.inr (.inr ⟨rfl, h⟩))
  · exact .inr (.inr (.inl h))
theorem ltY_asy {a b : Int × List Int} (h : ltY a b = true) : ltY b a = false := by
  cases h' : ltY b a with
  | false => rfl
  | true => have := ltY_trans h h'; rw [ltY_irr] at this; cases this
theorem ltY_not {a b : Int × List Int} (h : ltY a b = false) : a = b ∨ ltY b a = true := by
  rcases ltY_tri a b with h1 | h1 | h1
  · exact .inl h1
  · rw [h] at h1; cases h1
  · exact .inr h1
theorem ltY_neg {a b c : Int × List Int} (h : ltY a b = false) (h' : ltY b c = false) : ltY a c = false := by
  rcases ltY_not h with rfl | h1
  · exact h'
  · rcases ltY_not h' with rfl | h2
    · exact h
    · exact ltY_asy (ltY_trans h2 h1)
/-- what a walk costs -/
def wt (l : List E) (p : List Int) : Int := sumP l (prs p)
def ky (l : List E) (p : List Int) : Int × List Int := (wt l p, p)
/-- no later -/
def leY (l : List E) (p q : List Int) : Prop := p = q ∨ ltY (ky l p) (ky l q) = true
theorem leY.trans {l : List E} {p q r : List Int} (h : leY l p q) (h' : leY l q r) : leY l p r := by
  rcases h with rfl | h
  · exact h'
  · rcases h' with rfl | h'
    · exact .inr h
    · exact .inr (ltY_trans h h')
/-- a walk from s to t that comes to no place twice -/
structure Smp (n : Nat) (l : List E) (s t : Int) (p : List Int) : Prop where
  head : p.head? = some s
  last : p.getLast? = some t
  nd : p.Nodup
  rng : ∀ v ∈ p, 0 ≤ v ∧ v < n
  ok : okP l (prs p) = true
theorem Smp.len {n : Nat} {l : List E} {s t : Int} {p : List Int} (h : Smp n l s t p) : p.length ≤ n ∧ 1 ≤ p.length := by
  have h1 : (p.map Int.toNat).Nodup := by
    rw [List.Nodup, List.pairwise_map]
    refine List.Pairwise.imp_of_mem (fun {x y} hx hy hxy e => hxy ?_) h.nd
    have := h.rng x hx
    have := h.rng y hy
    omega
  have h2 := FloydLaw.nodup_len h1 (k := n) (fun m hm => by
    rw [List.mem_map] at hm
    obtain ⟨x, hx, rfl⟩ := hm
    have := h.rng x hx
    omega)
  rw [List.length_map] at h2
  refine ⟨h2, ?_⟩
  have := h.head
  cases p with
  | nil => simp at this
  | cons a r => simp
theorem Smp.cost {n : Nat} {l : List E} {s t : Int} {p : List Int} (h : Smp n l s t p) (hg : chk n l = 0) (hn : n ≤ 64) : cost n l p = (wt l p, 0) := by
  have h1 := h.len
  unfold WalkLaw.cost
  rw [if_neg (by simp [hg]), if_neg (by omega), if_neg (by omega), if_neg ?_, if_pos h.ok]
  · rfl
  · rw [Bool.not_eq_true, List.any_eq_false]
    intro v hv
    have := h.rng v hv
    unfold outB
    simp only [Bool.or_eq_true, decide_eq_true_eq]
    omega
theorem Smp.end_ {n : Nat} {l : List E} {s t : Int} {a : List Int} {x : Int} {r : List Int} (h : Smp n l s t (a ++ x :: r)) (hx : x = t) : r = [] := by
  have h1 := h.last
  have h2 := h.nd
  subst hx
  cases r with
  | nil => rfl
  | cons y r =>
    exfalso
    rw [List.getLast?_append, List.getLast?_cons_cons] at h1
    have h3 : (y :: r).getLast? = some x := by
      cases h4 : (y :: r).getLast? with
      | none => simp at h4
      | some z => rw [h4] at h1; simpa using h1
    have h4 := List.mem_of_getLast? h3
    rw [List.nodup_append] at h2
    have := h2.2.1
    rw [List.nodup_cons] at this
    exact this.1 h4
/-- goes on from b with none of some -/
def Cd (n : Nat) (l : List E) (s t : Int) (b : List Int) (not : Int → Prop) (p : List Int) : Prop := Smp n l s t p ∧ ∃ r, p = b ++ r ∧ ∀ x, r.head? = some x → ¬ not x
/-- the next places of the ways told that begin so -/
def nots (out : List (List Int)) (b : List Int) (x : Int) : Prop := ∃ z ∈ out, ∃ r, z = b ++ x :: r
/-- a beginning that is told is cared for by what waits -/
def Cov (n : Nat) (l : List E) (s t : Int) (out L : List (List Int)) (b : List Int) : Prop :=
  ∀ p, Cd n l s t b (nots out b) p → ∃ q ∈ L, Cd n l s t b (nots out b) q ∧ leY l q p
/-- told, waiting; the beginnings in bad are still to be cared for -/
structure Inv (n : Nat) (l : List E) (s t : Int) (out L : List (List Int)) (bad : List Int → Prop) : Prop where
  so : ∀ p ∈ out, Smp n l s t p
  sl : ∀ p ∈ L, Smp n l s t p
  cov : ∀ b, b ≠ [] → (∃ x, nots out b x) → ¬ bad b → Cov n l s t out L b
  none : out = [] → ∀ p, Smp n l s t p → ∃ q ∈ L, leY l q p
  sorted : out.Pairwise fun p q => ltY (ky l p) (ky l q) = true
  low : ∀ p, Smp n l s t p → p ∉ out → ∀ q ∈ out, ltY (ky l q) (ky l p) = true
section
variable {n : Nat} {l : List E} {s t : Int} {out L L' : List (List Int)}
theorem cons_of_head {p : List Int} {s : Int} (h : p.head? = some s) : ∃ r, p = s :: r := by
  cases p with
  | nil => simp at h
  | cons a r => simp at h; exact ⟨r, by rw [h]⟩
/-- a way not told has one before it that waits and is not told -/
theorem Inv.waits (h : Inv n l s t out L (fun _ => False)) {p : List Int} (hp : Smp n l s t p) (hout : p ∉ out) : ∃ q ∈ L, q ∉ out ∧ leY l q p := by
  by_cases ho : out = []
  · obtain ⟨q, h1, h2⟩ := h.none ho p hp
    exact ⟨q, h1, by rw [ho]; simp, h2⟩
  · -- the longest beginning of p that is told
    have key : ∀ k, k ≤ p.length → (∃ b r, p = b ++ r ∧ b ≠ [] ∧ r.length = k ∧ ∃ x, nots out b x) → ∃ b r, p = b ++ r ∧ b ≠ [] ∧ (∃ x, nots out b x) ∧ ∀ x r', r = x :: r' → ¬ nots out b x := by
      intro k
      induction k with
      | zero =>
        rintro - ⟨b, r, rfl, hb, hr, hx⟩
        exact ⟨b, r, rfl, hb, hx, fun x r' e => by rw [e] at hr; simp at hr⟩
      | succ k ih =>
        rintro hk ⟨b, r, he, hb, hr, hx⟩
        cases r with
        | nil => simp at hr
        | cons y r =>
          by_cases hy : nots out b y
          · obtain ⟨z, hz, r1, e⟩ := hy
            have hsz := h.so z hz
            cases r1 with
            | nil =>
              exfalso
              have h1 := hsz.last
              rw [e, List.getLast?_append] at h1
              simp at h1
              have h2 := (he ▸ hp).end_ h1
              exact hout (by rw [he, h2, ← e]; exact hz)
            | cons w r1 =>
              refine ih (by omega) ⟨b ++ [y], r, by rw [he]; simp, by simp, by simpa using hr, w, z, hz, r1, by rw [e]; simp⟩
          · exact ⟨b, y :: r, he, hb, hx, fun x r' e => by injection e with e _; subst e; exact hy⟩
    obtain ⟨z, hz⟩ := List.exists_mem_of_ne_nil _ ho
    have hsz := h.so z hz
    obtain ⟨rz, ez⟩ := cons_of_head hsz.head
    obtain ⟨rp, ep⟩ := cons_of_head hp.head
    have hb0 : ∃ x, nots out [s] x := by
      cases rz with
      | nil =>
        exfalso
        have h1 := hsz.last
        rw [ez] at h1
        simp at h1
        have h2 := Smp.end_ (a := []) (x := s) (r := rp) (by rw [List.nil_append, ← ep]; exact hp) h1
        exact hout (by rw [ep, h2, ← ez]; exact hz)
      | cons x rz => exact ⟨x, z, hz, rz, by rw [ez]; rfl⟩
    obtain ⟨b, r, he, hb, ⟨x, hx⟩, hr⟩ := key rp.length (by rw [ep]; simp) ⟨[s], rp, by rw [ep]; rfl, by simp, rfl, hb0⟩
    obtain ⟨q, h1, h2, h3⟩ := h.cov b hb ⟨x, hx⟩ (fun h => h) p ⟨hp, r, he, fun y hy => by
      obtain ⟨r', e'⟩ := cons_of_head hy
      exact hr y r' e'⟩
    refine ⟨q, h1, fun hq => ?_, h3⟩
    obtain ⟨hsq, rq, eq, hnq⟩ := h2
    cases rq with
    | nil =>
      obtain ⟨z', hz', r', e'⟩ := hx
      have h4 := hsq.last
      rw [eq, List.append_nil] at h4
      obtain ⟨b0, eb⟩ : ∃ b0, b = b0 ++ [t] := List.getLast?_eq_some_iff.1 h4
      have h5 := Smp.end_ (a := b0) (x := t) (r := x :: r') (by have := h.so z' hz'; rw [e', eb] at this; simpa using this) rfl
      cases h5
    | cons y rq => exact hnq y rfl ⟨q, hq, rq, eq⟩
/-- the least that waits is told already -/
theorem Inv.skip (h : Inv n l s t out L (fun _ => False)) {w : List Int} (hp : (w :: L').Perm L) (hw : w ∈ out) : Inv n l s t out L' (fun _ => False) := by
  have hmem : ∀ q ∈ L, q ≠ w → q ∈ L' := fun q hq hne => by
    rcases List.mem_cons.1 (hp.mem_iff.2 hq) with h | h
    · exact absurd h hne
    · exact h
  refine ⟨h.so, fun p hp' => h.sl p (hp.mem_iff.1 (List.mem_cons_of_mem _ hp')), fun b hb ⟨x, hx⟩ hn p hc => ?_, fun e => (by rw [e] at hw; simp at hw), h.sorted, h.low⟩
  obtain ⟨q, h1, h2, h3⟩ := h.cov b hb ⟨x, hx⟩ hn p hc
  refine ⟨q, hmem q h1 (fun e => ?_), h2, h3⟩
  subst e
  obtain ⟨hsq, rq, eq, hnq⟩ := h2
  cases rq with
  | nil =>
    obtain ⟨z', hz', r', e'⟩ := hx
    have h4 := hsq.last
    rw [eq, List.append_nil] at h4
    obtain ⟨b0, eb⟩ : ∃ b0, b = b0 ++ [t] := List.getLast?_eq_some_iff.1 h4
    have h5 := Smp.end_ (a := b0) (x := t) (r := x :: r') (by have := h.so z' hz'; rw [e', eb] at this; simpa using this) rfl
    cases h5
  | cons y rq => exact hnq y rfl ⟨q, hw, rq, eq⟩
/-- the beginnings of a way from the i-th on -/
def bad (w : List Int) (i : Nat) (b : List Int) : Prop := ∃ k, i ≤ k ∧ k < w.length ∧ b = w.take k
/-- the least that waits is told anew -/
theorem Inv.take (h : Inv n l s t out L (fun _ => False)) {w : List Int} (hp : (w :: L').Perm L) (hmin : ∀ q ∈ L, leY l w q) (hw : w ∉ out) : Inv n l s t (out ++ [w]) L' (bad w 1) := by
  have hsw : Smp n l s t w := h.sl w (hp.mem_iff.1 (List.mem_cons_self))
  have hle : ∀ p, Smp n l s t p → p ∉ out → leY l w p := fun p hp' ho => by
    obtain ⟨q, h1, h2, h3⟩ := h.waits hp' ho
    exact (hmin q h1).trans h3
  refine ⟨fun p hp' => ?_, fun p hp' => h.sl p (hp.mem_iff.1 (List.mem_cons_of_mem _ hp')), fun b hb ⟨x, hx⟩ hn => ?_, fun e => by simp at e, ?_, fun p hp' ho q hq => ?_⟩
  · rcases List.mem_append.1 hp' with h1 | h1
    · exact h.so p h1
    · rw [List.mem_singleton] at h1; subst h1; exact hsw
  · have hbw : ∀ y r, w ≠ b ++ y :: r := fun y r e => hn ⟨b.length, by
      cases b with
      | nil => exact absurd rfl hb
      | cons _ _ => simp, by rw [e]; simp, by rw [e]; simp⟩
    have hno : nots (out ++ [w]) b = nots out b := by
      funext y
      refine propext ⟨fun ⟨z, hz, r, e⟩ => ?_, fun ⟨z, hz, r, e⟩ => ⟨z, List.mem_append_left _ hz, r, e⟩⟩
      rcases List.mem_append.1 hz with h1 | h1
      · exact ⟨z, h1, r, e⟩
      · rw [List.mem_singleton] at h1
        subst h1
        exact absurd e (hbw y r)
    intro p hc
    rw [hno] at hc hx ⊢
    obtain ⟨q, h1, h2, h3⟩ := h.cov b hb ⟨x, hx⟩ (fun h => h) p hc
    refine ⟨q, ?_, h2, h3⟩
    rcases List.mem_cons.1 (hp.mem_iff.2 h1) with h4 | h4
    · exfalso
      subst h4
      obtain ⟨hsq, rq, eq, hnq⟩ := h2
      cases rq with
      | nil =>
        obtain ⟨z', hz', r', e'⟩ := hx
        have h4 := hsq.last
        rw [eq, List.append_nil] at h4
        obtain ⟨b0, eb⟩ : ∃ b0, b = b0 ++ [t] := List.getLast?_eq_some_iff.1 h4
        have h5 := Smp.end_ (a := b0) (x := t) (r := x :: r') (by have := h.so z' hz'; rw [e', eb] at this; simpa using this) rfl
        cases h5
      | cons y rq => exact hbw y rq eq
    · exact h4
  · rw [List.pairwise_append]
    refine ⟨h.sorted, by simp, fun a ha b hb => ?_⟩
    rw [List.mem_singleton] at hb
    subst hb
    exact h.low _ hsw hw a ha
  · rw [List.mem_append, List.mem_singleton, not_or] at ho
    rcases List.mem_append.1 hq with h1 | h1
    · exact h.low p hp' ho.1 q h1
    · rw [List.mem_singleton] at h1
      subst h1
      rcases hle p hp' ho.1 with e | e
      · exact absurd e.symm ho.2
      · exact e
/-- one beginning more is cared for: by the least that goes on from it, or by none if there is none -/
theorem Inv.care {w : List Int} {i : Nat} (h : Inv n l s t out L (bad w i)) (hL : ∀ q ∈ L, q ∈ L') (hS : ∀ q ∈ L', Smp n l s t q) (hc : ∀ p, Cd n l s t (w.take i) (nots out (w.take i)) p → ∃ q ∈ L', Cd n l s t (w.take i) (nots out (w.take i)) q ∧ leY l q p) : Inv n l s t out L' (bad w (i + 1)) := by
  refine ⟨h.so, hS, fun b hb hx hn => ?_, fun e p hp => ?_, h.sorted, h.low⟩
  · by_cases hbi : b = w.take i
    · subst hbi
      exact hc
    · intro p hp
      obtain ⟨q, h1, h2, h3⟩ := h.cov b hb hx (fun ⟨k, h1, h2, h3⟩ => hn ⟨k, by
        rcases Nat.lt_or_ge i k with h4 | h4
        · exact h4
        · have : k = i := by omega
          subst this
          exact absurd h3 hbi, h2, h3⟩) p hp
      exact ⟨q, hL q h1, h2, h3⟩
  · obtain ⟨q, h1, h2⟩ := h.none e p hp
    exact ⟨q, hL q h1, h2⟩
theorem Inv.cared {w : List Int} {i : Nat} (h : Inv n l s t out L (bad w i)) (hi : w.length ≤ i) : Inv n l s t out L (fun _ => False) :=
  ⟨h.so, h.sl, fun b hb hx _ => h.cov b hb hx (fun ⟨k, h1, h2, _⟩ => by omega), h.none, h.sorted, h.low⟩
theorem nodup_sub {α : Type} [DecidableEq α] {a b : List α} (h : a.Nodup) (hs : ∀ x ∈ a, x ∈ b) : a.length ≤ b.length := by
  induction a generalizing b with
  | nil => exact Nat.zero_le _
  | cons x a ih =>
    rw [List.nodup_cons] at h
    have hx : x ∈ b := hs x (by simp)
    have := ih (b := b.erase x) h.2 (fun y hy => by
      have hne : y ≠ x := fun e => h.1 (e ▸ hy)
      exact (List.mem_erase_of_ne hne).2 (hs y (by simp [hy])))
    rw [List.length_erase_of_mem hx] at this
    have := List.length_pos_of_mem hx
    rw [List.length_cons]
    omega
/-- what K tells: the first k of all -/
structure Top (n : Nat) (l : List E) (s t : Int) (k : Nat) (out : List (List Int)) : Prop where
  so : ∀ p ∈ out, Smp n l s t p
  sorted : out.Pairwise fun p q => ltY (ky l p) (ky l q) = true
  low : ∀ p, Smp n l s t p → p ∉ out → ∀ q ∈ out, ltY (ky l q) (ky l p) = true
  len : out.length ≤ k
  all : out.length = k ∨ ∀ p, Smp n l s t p → p ∈ out
theorem Inv.top {k : Nat} (h : Inv n l s t out L (fun _ => False)) (hk : out.length ≤ k) (he : out.length = k ∨ L = []) : Top n l s t k out :=
  ⟨h.so, h.sorted, h.low, hk, he.imp_right fun e p hp => by
    by_cases ho : p ∈ out
    · exact ho
    · obtain ⟨q, h1, _⟩ := h.waits hp ho
      rw [e] at h1
      cases h1⟩
/-- of two lists of first ones each begins the other -/
theorem Top.pre {k k' : Nat} {out' : List (List Int)} (h : Top n l s t k out) (h' : Top n l s t k' out') (i : Nat) (hi : i < out.length) (hi' : i < out'.length) : out[i] = out'[i] := by
  induction i using Nat.strongRecOn with
  | _ i ih =>
    have key : ∀ {k k' : Nat} {out out' : List (List Int)} (h : Top n l s t k out) (h' : Top n l s t k' out') (hi : i < out.length) (hi' : i < out'.length), (∀ j (hj : j < i), out[j]'(by omega) = out'[j]'(by omega)) → leY l (out[i]) (out'[i]) := by
      intro k k' out out' h h' hi hi' heq
      by_cases hm : out'[i] ∈ out
      · obtain ⟨j, hj, e⟩ := List.mem_iff_getElem.1 hm
        rcases Nat.lt_trichotomy j i with hlt | rfl | hgt
        · exfalso
          have h1 := heq j hlt
          rw [e] at h1
          have h2 := List.pairwise_iff_getElem.1 h'.sorted j i (by omega) hi' hlt
          rw [← h1, ltY_irr] at h2
          cases h2
        · exact .inl e
        · have h2 := List.pairwise_iff_getElem.1 h.sorted i j hi hj hgt
          rw [e] at h2
          exact .inr h2
      · exact .inr (h.low _ (h'.so _ (List.getElem_mem hi')) hm _ (List.getElem_mem hi))
    have h1 := key h h' hi hi' (fun j hj => ih j hj (by omega) (by omega))
    have h2 := key h' h hi' hi (fun j hj => (ih j hj (by omega) (by omega)).symm)
    rcases h1 with h1 | h1
    · exact h1
    · rcases h2 with h2 | h2
      · exact h2.symm
      · have := ltY_asy h1
        rw [h2] at this
        cases this
theorem Top.nd {k : Nat} (h : Top n l s t k out) : out.Nodup := by
  refine List.Pairwise.imp (fun {a b} hab e => ?_) h.sorted
  subst e
  rw [ltY_irr] at hab
  cases hab
theorem Top.eq {k k' : Nat} {out' : List (List Int)} (h : Top n l s t k out) (h' : Top n l s t k' out') (hk : k ≤ k') : out = out'.take k := by
  have hlen : out.length = min k out'.length := by
    have l1 := h.len
    have l2 := h'.len
    have sub : ∀ {k k' : Nat} {out out' : List (List Int)} (h : Top n l s t k out) (h' : Top n l s t k' out'), (∀ p, Smp n l s t p → p ∈ out') → out.length ≤ out'.length := fun {k k' out out'} h h' hall =>
      nodup_sub h.nd (fun p hp => hall p (h.so p hp))
    rcases h.all with h1 | h1
    · rcases h'.all with h2 | h2
      · omega
      · have := sub h h' h2; omega
    · have := sub h' h h1
      rcases h'.all with h2 | h2
      · omega
      · have := sub h h' h2; omega
  refine List.ext_getElem (by rw [List.length_take]; omega) fun i h1 h2 => ?_
  rw [List.getElem_take]
  exact h.pre h' i h1 (by rw [List.length_take] at h2; omega)
end
end Go.Proofs.Ytjebckehmmbkbaa.YenLaw
