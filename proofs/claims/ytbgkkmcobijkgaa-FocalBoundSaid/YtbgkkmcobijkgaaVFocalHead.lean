/- Plain facts on the search by taste: no Go in sight. -/
/- Plain facts on the search by taste: what holds all the way; the way back. -/
/- Plain facts on how the search by taste ends; the laws' own small net. -/
/- Plain facts on the search by taste: what is found costs no more than the weight times the least. -/
/- Plain: the order begins with the start. -/
import Derived.Test.YtbgkkmcobijkgaaVStarLaw
namespace Go.Proofs.Ytbgkkmcobijkgaa.FocalLaw
open NetLaw BellLaw DijkLaw HeurLaw StarLaw
set_option linter.unusedSimpArgs false
set_option linter.unusedVariables false
/-- cost and guess together -/
def sm (h C : List Int) (v : Int) : Int := dg C v + dg h v
/-- the least of what waits, by the first k -/
def lst (h C : List Int) (B : List Bool) : Nat → Int × Bool
  | 0 => (0, false)
  | k + 1 => if B.getD k false = true ∧ ((lst h C B k).2 = false ∨ sm h C k < (lst h C B k).1) then (sm h C k, true) else lst h C B k
/-- rather looked from -/
def btr (h ta C : List Int) (a b : Int) : Bool := if dg ta a ≠ dg ta b then decide (dg ta a < dg ta b) else decide (sm h C a < sm h C b ∨ sm h C a = sm h C b ∧ a < b)
/-- the pick among the first k -/
def pk (h ta C : List Int) (B : List Bool) (p q : Int) (L : Int × Bool) : Nat → Int
  | 0 => -1
  | k + 1 => if L.2 = true ∧ B.getD k false = true ∧ sm h C k * q ≤ p * L.1 ∧ (pk h ta C B p q L k < 0 ∨ btr h ta C k (pk h ta C B p q L k) = true) then (k : Int) else pk h ta C B p q L k
def pick (n : Nat) (h ta C : List Int) (B : List Bool) (p q : Int) : Int := pk h ta C B p q (lst h C B n) n
section
variable {h ta C : List Int} {B : List Bool} {p q : Int}
theorem pk_rng (L : Int × Bool) (k : Nat) : pk h ta C B p q L k = -1 ∨ ∃ v : Nat, v < k ∧ pk h ta C B p q L k = v ∧ L.2 = true ∧ B.getD v false = true ∧ sm h C v * q ≤ p * L.1 := by
  induction k with
  | zero => exact .inl rfl
  | succ k ih =>
    rw [pk]
    split
    · rename_i hh
      exact .inr ⟨k, by omega, rfl, hh.1, hh.2.1, hh.2.2.1⟩
    · rcases ih with h1 | ⟨v, h1, h2⟩
      · exact .inl h1
      · exact .inr ⟨v, by omega, h2⟩
theorem pk_none {L : Int × Bool} (hL : L.2 = true) {k : Nat} (hp : pk h ta C B p q L k = -1) : ∀ v : Nat, v < k → B.getD v false = true → ¬ sm h C v * q ≤ p * L.1 := by
  induction k with
  | zero => intro v hv; omega
  | succ k ih =>
    intro v hv hb hs
    rw [pk] at hp
    split at hp
    · omega
    · rename_i hh
      have h1 := ih hp
      by_cases hvk : v = k
      · subst hvk
        exact hh ⟨hL, hb, hs, .inl (by rw [hp]; decide)⟩
      · exact h1 v (by omega) hb hs
theorem lst_spec (k : Nat) : ((lst h C B k).2 = false → ∀ v : Nat, v < k → B.getD v false = false) ∧ ((lst h C B k).2 = true → (∃ v : Nat, v < k ∧ B.getD v false = true ∧ sm h C v = (lst h C B k).1) ∧ ∀ v : Nat, v < k → B.getD v false = true → (lst h C B k).1 ≤ sm h C v) := by
  induction k with
  | zero => exact ⟨fun _ v hv => by omega, fun h => by cases h⟩
  | succ k ih =>
    rw [lst]
    split
    · rename_i hh
      refine ⟨fun h => (by cases h), fun _ => ⟨⟨k, by omega, hh.1, rfl⟩, fun v hv hb => ?_⟩⟩
      by_cases hvk : v = k
      · subst hvk; exact Int.le_refl _
      · rcases hh.2 with h1 | h1
        · rw [ih.1 h1 v (by omega)] at hb; cases hb
        · cases h2 : (lst h C B k).2 with
          | false => rw [ih.1 h2 v (by omega)] at hb; cases hb
          | true => have := (ih.2 h2).2 v (by omega) hb; omega
    · rename_i hh
      refine ⟨fun h1 v hv => ?_, fun h1 => ⟨?_, fun v hv hb => ?_⟩⟩
      · by_cases hvk : v = k
        · subst hvk
          cases hb : B.getD v false with
          | false => rfl
          | true => exact absurd ⟨hb, .inl h1⟩ hh
        · exact ih.1 h1 v (by omega)
      · obtain ⟨v, h2, h3⟩ := (ih.2 h1).1
        exact ⟨v, by omega, h3⟩
      · by_cases hvk : v = k
        · subst hvk
          by_cases h2 : sm h C v < (lst h C B v).1
          · exact absurd ⟨hb, .inr h2⟩ hh
          · omega
        · exact (ih.2 h1).2 v (by omega) hb
/-- none is picked: none waits -/
theorem pick_none {n : Nat} (hq : 1 ≤ q) (hqp : q ≤ p) (h0 : ∀ v : Nat, v < n → 0 ≤ sm h C v) (hp : pick n h ta C B p q < 0) : ∀ v : Nat, v < n → B.getD v false = false := by
  have hs := lst_spec (h := h) (C := C) (B := B) n
  unfold pick at hp
  have hm : pk h ta C B p q (lst h C B n) n = -1 := by
    rcases pk_rng (h := h) (ta := ta) (C := C) (B := B) (p := p) (q := q) (lst h C B n) n with h1 | ⟨v, _, h2, _⟩
    · exact h1
    · omega
  cases hL : (lst h C B n).2 with
  | false => exact hs.1 hL
  | true =>
    obtain ⟨⟨u, hu, hb, he⟩, _⟩ := hs.2 hL
    have h1 := pk_none hL hm u hu hb
    exfalso
    apply h1
    rw [← he]
    have h2 := h0 u hu
    have h3 := Int.mul_le_mul_of_nonneg_right hqp h2
    rw [Int.mul_comm (sm h C u) q]
    exact h3
/-- one is picked: it waits, and it is not too dear -/
theorem pick_some {n : Nat} (hp : 0 ≤ pick n h ta C B p q) : ∃ v : Nat, v < n ∧ pick n h ta C B p q = v ∧ B.getD v false = true ∧ ∀ u : Nat, u < n → B.getD u false = true → 0 ≤ p → sm h C v * q ≤ p * sm h C u := by
  unfold pick at hp ⊢
  rcases pk_rng (h := h) (ta := ta) (C := C) (B := B) (p := p) (q := q) (lst h C B n) n with h1 | ⟨v, h1, h2, h3, h4, h5⟩
  · omega
  · refine ⟨v, h1, h2, h4, fun u hu hb hp0 => ?_⟩
    have h6 := ((lst_spec (h := h) (C := C) (B := B) n).2 h3).2 u hu hb
    exact Int.le_trans h5 (Int.mul_le_mul_of_nonneg_left h6 hp0)
end
/-- one edge out of v looked at -/
def fx1 (h : List Int) (v : Int) (s : List Int × List Int × List Bool) (e : E) : List Int × List Int × List Bool :=
  if dg s.1 v + e.2.2 < dg s.1 e.2.1 ∧ dg h e.2.1 < far then (s.1.set e.2.1.toNat (dg s.1 v + e.2.2), s.2.1.set e.2.1.toNat v, s.2.2.set e.2.1.toNat true) else s
def fxs (h : List Int) (v : Int) (es : List E) (s : List Int × List Int × List Bool) : List Int × List Int × List Bool := es.foldl (fx1 h v) s
/-- the start -/
def F0 (n fr : Nat) (h : List Int) : List Int × List Int × List Bool := ((List.replicate n far).set fr 0, List.replicate n (-1), (List.replicate n false).set fr (decide (dg h fr < far)))
/-- what is come to -/
inductive Fr (n fr tt : Nat) (l : List E) (h ta : List Int) (p q : Int) : List Int × List Int × List Bool → List Int → Prop
  | start : Fr n fr tt l h ta p q (F0 n fr h) []
  | step {s : List Int × List Int × List Bool} {ord : List Int} {v : Nat} : Fr n fr tt l h ta p q s ord → pick n h ta s.1 s.2.2 p q = v → v ≠ tt → Fr n fr tt l h ta p q (fxs h v (oe l v) (s.1, s.2.1, s.2.2.set v false)) (ord ++ [(v : Int)])
section
variable {n fr tt : Nat} {l : List E} {h ta : List Int} {p q : Int}
theorem Fr.same {s : List Int × List Int × List Bool} {ord : List Int} : ∀ {s' : List Int × List Int × List Bool} {ord' : List Int}, Fr n fr tt l h ta p q s ord → Fr n fr tt l h ta p q s' ord' → ord.length = ord'.length → s = s' ∧ ord = ord' := by
  intro s' ord' hr hr'
  induction hr generalizing s' ord' with
  | start =>
    intro hl
    cases hr' with
    | start => exact ⟨rfl, rfl⟩
    | step _ _ _ => simp at hl
  | step hr hn hv ih =>
    intro hl
    cases hr' with
    | start => simp at hl
    | step hr2 hn2 hv2 =>
      obtain ⟨rfl, rfl⟩ := ih hr2 (by simpa using hl)
      rw [hn] at hn2
      obtain rfl := Int.ofNat.inj hn2
      exact ⟨rfl, rfl⟩
theorem Fr.upto {s : List Int × List Int × List Bool} {ord : List Int} (hr : Fr n fr tt l h ta p q s ord) : ∀ k, k < ord.length → ∃ s' ord' v, Fr n fr tt l h ta p q s' ord' ∧ ord'.length = k ∧ pick n h ta s'.1 s'.2.2 p q = (v : Nat) ∧ v ≠ tt := by
  induction hr with
  | start => intro k hk; simp at hk
  | @step s ord v hr hn hv ih =>
    intro k hk
    rw [List.length_append, List.length_singleton] at hk
    by_cases he : k = ord.length
    · exact ⟨s, ord, v, hr, he.symm, hn, hv⟩
    · exact ih k (by omega)
end
end Go.Proofs.Ytbgkkmcobijkgaa.FocalLaw

namespace Go.Proofs.Ytbgkkmcobijkgaa.FocalLaw
open NetLaw BellLaw DijkLaw HeurLaw StarLaw
set_option linter.unusedSimpArgs false
set_option linter.unusedVariables false
theorem dg_set {D : List Int} {n k : Nat} (hD : D.length = n) (hk : k < n) (x : Int) (u : Int) (u0 : 0 ≤ u) : dg (D.set k x) u = if u = k then x else dg D u := by
  obtain ⟨j, rfl⟩ := Int.eq_ofNat_of_zero_le u0
  rw [dg, dg, Int.toNat_natCast, List.getD_eq_getElem?_getD, List.getD_eq_getElem?_getD, List.getElem?_set]
  by_cases h : k = j
  · subst h; rw [if_pos rfl, if_pos (by omega), if_pos rfl]; rfl
  · rw [if_neg h, if_neg (by omega)]
theorem getB_set {B : List Bool} {n k : Nat} (hB : B.length = n) (hk : k < n) (x : Bool) (j : Nat) : (B.set k x).getD j false = if j = k then x else B.getD j false := by
  rw [List.getD_eq_getElem?_getD, List.getD_eq_getElem?_getD, List.getElem?_set]
  by_cases h : k = j
  · subst h; rw [if_pos rfl, if_pos (by omega), if_pos rfl]; rfl
  · rw [if_neg h, if_neg (fun e => h e.symm)]
structure Fi (n fr : Nat) (l : List E) (h C P : List Int) (B : List Bool) : Prop where
  lc : C.length = n
  lp : P.length = n
  lb : B.length = n
  lo : ∀ v : Int, 0 ≤ v → v < n → 0 ≤ dg C v ∧ dg C v ≤ far
  wt : ∀ v : Nat, v < n → B.getD v false = true → dg C v < far ∧ dg h v < far
  wk : ∀ v : Int, 0 ≤ v → v < n → dg C v < far → Wk l fr v (dg C v)
  root : dg C fr = 0
  rootP : dg P fr = -1
  tree : ∀ v : Int, 0 ≤ v → v < n → dg C v < far → v ≠ fr → (0 ≤ dg P v ∧ dg P v < n) ∧ dg C (dg P v) < far ∧ ∃ c, (dg P v, v, c) ∈ l ∧ dg C (dg P v) + c ≤ dg C v
section
variable {n fr : Nat} {l : List E} {h C P : List Int} {B : List Bool}
theorem Fi.start (hf : fr < n) : Fi n fr l h (F0 n fr h).1 (F0 n fr h).2.1 (F0 n fr h).2.2 := by
  have hr : (List.replicate n far).length = n := by simp
  have e : ∀ u : Int, 0 ≤ u → u < n → dg (F0 n fr h).1 u = if u = fr then 0 else far := fun u u0 u1 => by
    rw [F0]
    simp only
    rw [dg_set hr hf 0 u u0, rep_dg u0 u1]
  refine ⟨by simp [F0], by simp [F0], by simp [F0], fun v v0 v1 => ?_, fun v hv hb => ?_, fun v v0 v1 hlt => ?_, ?_, ?_, fun v v0 v1 hlt hne => ?_⟩
  · rw [e v v0 v1]; split <;> unfold far <;> omega
  · rw [F0] at hb
    simp only at hb
    rw [getB_set (n := n) (by simp) hf] at hb
    split at hb
    · rename_i hvf
      subst hvf
      rw [e v (by omega) (by omega), if_pos rfl]
      exact ⟨by unfold far; omega, by simpa using hb⟩
    · rw [List.getD_eq_getElem?_getD, List.getElem?_replicate, if_pos hv] at hb
      cases hb
  · rw [e v v0 v1] at hlt ⊢
    split at hlt
    · rename_i hvf
      rw [if_pos hvf, hvf]
      exact Wk.here
    · exact absurd hlt (Int.lt_irrefl _)
  · rw [e fr (by omega) (by omega), if_pos rfl]
  · rw [F0]
    exact rep_dg (by omega) (by omega)
  · rw [e v v0 v1, if_neg hne] at hlt
    exact absurd hlt (Int.lt_irrefl _)
theorem Fi.off (hi : Fi n fr l h C P B) (k : Nat) (hk : k < n) : Fi n fr l h C P (B.set k false) :=
  ⟨hi.lc, hi.lp, by rw [List.length_set]; exact hi.lb, hi.lo, fun v hv hb => by
    rw [getB_set hi.lb hk] at hb
    split at hb
    · cases hb
    · exact hi.wt v hv hb, hi.wk, hi.root, hi.rootP, hi.tree⟩
theorem Fi.one (hi : Fi n fr l h C P B) (hends : ∀ e ∈ l, 0 ≤ e.1 ∧ e.1 < n ∧ 0 ≤ e.2.1 ∧ e.2.1 < n) (hc : ∀ e ∈ l, 1 ≤ e.2.2) (hf : fr < n) {v : Nat} (hv : v < n) (hvf : dg C v < far) {e : E} (he : e ∈ l) (hev : e.1 = v) :
    Fi n fr l h (fx1 h v (C, P, B) e).1 (fx1 h v (C, P, B) e).2.1 (fx1 h v (C, P, B) e).2.2 ∧ dg (fx1 h v (C, P, B) e).1 v = dg C v := by
  unfold fx1
  split
  · rename_i hx
    obtain ⟨h1, h2⟩ := hx
    simp only at h1 h2 ⊢
    obtain ⟨_, _, t0, t1⟩ := hends e he
    have hc1 := hc e he
    obtain ⟨u, hu⟩ := Int.eq_ofNat_of_zero_le t0
    rw [hu] at h1 h2 t1
    have hun : u < n := by omega
    have hut : e.2.1.toNat = u := by rw [hu, Int.toNat_natCast]
    rw [hut]
    have lv := hi.lo v (by omega) (by omega)
    have lu := hi.lo u (by omega) (by omega)
    have hne : u ≠ fr := fun e => by rw [e, hi.root] at h1; omega
    have huv : u ≠ v := fun e => by rw [e] at h1; omega
    have eC := fun (w : Int) (w0 : 0 ≤ w) => dg_set hi.lc hun (dg C v + e.2.2) w w0
    have eP := fun (w : Int) (w0 : 0 ≤ w) => dg_set hi.lp hun (v : Int) w w0
    have hm : (((v : Nat) : Int), ((u : Nat) : Int), e.2.2) ∈ l := by
      have : e = ((v : Int), (u : Int), e.2.2) := Prod.ext hev (Prod.ext hu rfl)
      rw [← this]; exact he
    refine ⟨⟨by rw [List.length_set]; exact hi.lc, by rw [List.length_set]; exact hi.lp, by rw [List.length_set]; exact hi.lb, fun w w0 w1 => ?_, fun w hw hb => ?_, fun w w0 w1 hlt => ?_, ?_, ?_, fun w w0 w1 hlt hwf => ?_⟩, ?_⟩
    · rw [eC w w0]
      split
      · omega
      · exact hi.lo w w0 w1
    · rw [eC w (by omega)]
      rw [getB_set hi.lb hun] at hb
      split at hb
      · rename_i hwu
        subst hwu
        rw [if_pos rfl]
        exact ⟨by omega, h2⟩
      · rename_i hwu
        rw [if_neg (by omega)]
        exact hi.wt w hw hb
    · rw [eC w w0] at hlt ⊢
      split at hlt
      · rename_i hwu
        rw [if_pos hwu, hwu]
        have hs := Wk.step (hi.wk v (by omega) (by omega) hvf) he hev
        rw [hu] at hs
        exact hs
      · rename_i hwu
        rw [if_neg hwu]
        exact hi.wk w w0 w1 hlt
    · rw [eC fr (by omega), if_neg (by omega)]; exact hi.root
    · rw [eP fr (by omega), if_neg (by omega)]; exact hi.rootP
    · rw [eP w w0]
      rw [eC w w0] at hlt ⊢
      split at hlt
      · rename_i hwu
        rw [if_pos hwu, if_pos hwu]
        refine ⟨⟨by omega, by omega⟩, ?_, e.2.2, by rw [hwu]; exact hm, ?_⟩
        · rw [eC v (by omega), if_neg (by omega)]; exact hvf
        · rw [eC v (by omega), if_neg (by omega)]; exact Int.le_refl _
      · rename_i hwu
        rw [if_neg hwu, if_neg hwu]
        obtain ⟨⟨p0, p1⟩, h3, c, h4, h5⟩ := hi.tree w w0 w1 hlt hwf
        refine ⟨⟨p0, p1⟩, ?_, c, h4, ?_⟩
        · rw [eC _ p0]; split
          · omega
          · exact h3
        · rw [eC _ p0]; split
          · rename_i hpu
            rw [hpu] at h5
            omega
          · exact h5
    · rw [eC v (by omega), if_neg (by omega)]
  · exact ⟨hi, rfl⟩
theorem Fi.all (hends : ∀ e ∈ l, 0 ≤ e.1 ∧ e.1 < n ∧ 0 ≤ e.2.1 ∧ e.2.1 < n) (hc : ∀ e ∈ l, 1 ≤ e.2.2) (hf : fr < n) {v : Nat} (hv : v < n) : ∀ (es : List E) (s : List Int × List Int × List Bool), (∀ e ∈ es, e ∈ l ∧ e.1 = v) → Fi n fr l h s.1 s.2.1 s.2.2 → dg s.1 v < far → Fi n fr l h (fxs h v es s).1 (fxs h v es s).2.1 (fxs h v es s).2.2 ∧ dg (fxs h v es s).1 v = dg s.1 v
  | [], s, _, hi, _ => ⟨hi, rfl⟩
  | e :: r, s, hm, hi, hlt => by
    obtain ⟨C, P, B⟩ := s
    obtain ⟨h1, h2⟩ := hi.one hends hc hf hv hlt (hm e (List.mem_cons_self ..)).1 (hm e (List.mem_cons_self ..)).2
    obtain ⟨h3, h4⟩ := Fi.all hends hc hf hv r (fx1 h v (C, P, B) e) (fun x hx => hm x (List.mem_cons_of_mem _ hx)) h1 (by rw [h2]; exact hlt)
    exact ⟨h3, h4.trans h2⟩
theorem Fr.fi {tt : Nat} {ta : List Int} {p q : Int} {s : List Int × List Int × List Bool} {ord : List Int} (hends : ∀ e ∈ l, 0 ≤ e.1 ∧ e.1 < n ∧ 0 ≤ e.2.1 ∧ e.2.1 < n) (hc : ∀ e ∈ l, 1 ≤ e.2.2) (hf : fr < n) (hr : Fr n fr tt l h ta p q s ord) : Fi n fr l h s.1 s.2.1 s.2.2 := by
  induction hr with
  | start => exact Fi.start hf
  | @step s ord v hr hn hv ih =>
    obtain ⟨u, hu, he, hb, _⟩ := pick_some (h := h) (ta := ta) (C := s.1) (B := s.2.2) (p := p) (q := q) (n := n) (by rw [hn]; omega)
    rw [hn] at he
    obtain rfl := Int.ofNat.inj he
    exact (Fi.all hends hc hf hu (oe l v) (s.1, s.2.1, s.2.2.set v false) (fun e he => by
      rw [oe, List.mem_filter] at he
      exact ⟨he.1, by simpa using he.2⟩) (ih.off v hu) (ih.wt v hu hb).1).1
/-- the way back -/
theorem Fi.chain (hi : Fi n fr l h C P B) (hc : ∀ e ∈ l, 1 ≤ e.2.2) : ∀ (k : Nat) (v : Int), 0 ≤ v → v < n → dg C v < far → dg C v ≤ k →
    ∃ cs, Ch P v cs ∧ (∀ x ∈ cs, (0 ≤ x ∧ x < n) ∧ dg C x ≤ dg C v) ∧ cs.Nodup ∧ cs.head? = some v ∧ cs.getLast? = some (fr : Int) ∧ WalkLaw.okP l (WalkLaw.prs cs.reverse) = true ∧ WalkLaw.sumP l (WalkLaw.prs cs.reverse) ≤ dg C v := by
  intro k
  induction k with
  | zero =>
    intro v v0 v1 hf hk
    by_cases e : v = fr
    · subst e
      exact ⟨[(fr : Int)], Ch.last hi.rootP, fun x hx => by rw [List.mem_singleton] at hx; subst hx; exact ⟨⟨v0, v1⟩, Int.le_refl _⟩, by simp, rfl, rfl, rfl, by rw [hi.root]; exact Int.le_refl _⟩
    · obtain ⟨⟨p0, p1⟩, _, c, hcl, hcd⟩ := hi.tree v v0 v1 hf e
      have := hc _ hcl
      have := (hi.lo _ p0 p1).1
      simp only at *
      omega
  | succ k ih =>
    intro v v0 v1 hf hk
    by_cases e : v = fr
    · subst e
      exact ⟨[(fr : Int)], Ch.last hi.rootP, fun x hx => by rw [List.mem_singleton] at hx; subst hx; exact ⟨⟨v0, v1⟩, Int.le_refl _⟩, by simp, rfl, rfl, rfl, by rw [hi.root]; exact Int.le_refl _⟩
    · obtain ⟨⟨p0, p1⟩, hpf, c, hcl, hcd⟩ := hi.tree v v0 v1 hf e
      have hc1 := hc _ hcl
      simp only at hc1
      obtain ⟨cs, hch, hb, hnd, hhd, hla, hok, hsum⟩ := ih (dg P v) p0 p1 hpf (by omega)
      have hlast : cs.reverse.getLast? = some (dg P v) := by rw [List.getLast?_reverse]; exact hhd
      have hpr : WalkLaw.prs (v :: cs).reverse = WalkLaw.prs cs.reverse ++ [(dg P v, v)] := by
        rw [List.reverse_cons]
        exact WayLaw.prs_snoc hlast v
      obtain ⟨_, heg, _⟩ := WayLaw.eg_fold (dg P v) v l (0, false)
      obtain ⟨hg1, hg2⟩ := heg _ hcl rfl rfl
      refine ⟨v :: cs, Ch.more p0 hch, fun x hx => ?_, List.nodup_cons.2 ⟨fun hx => ?_, hnd⟩, rfl, ?_, ?_, ?_⟩
      · rcases List.mem_cons.1 hx with rfl | hx
        · exact ⟨⟨v0, v1⟩, Int.le_refl _⟩
        · exact ⟨(hb x hx).1, by have := (hb x hx).2; omega⟩
      · have := (hb v hx).2; omega
      · cases cs with
        | nil => cases hhd
        | cons y ys => rw [List.getLast?_cons_cons]; exact hla
      · rw [hpr, WalkLaw.okP_snoc, hok]
        exact hg1
      · rw [hpr, WalkLaw.sumP_snoc]
        have h8 : (WalkLaw.eg l (dg P v) v).1 ≤ c := hg2
        show WalkLaw.sumP l (WalkLaw.prs cs.reverse) + (WalkLaw.eg l (dg P v) v).1 ≤ dg C v
        omega
/-- the way found -/
theorem Fi.way (hi : Fi n fr l h C P B) (hg : NetLaw.Good n l) (hc : ∀ e ∈ l, 1 ≤ e.2.2) {v : Int} (v0 : 0 ≤ v) (v1 : v < n) (hf : dg C v < far) :
    ∃ cs, Ch P v cs ∧ (∀ x ∈ cs, 0 ≤ x ∧ x < n) ∧ cs.length ≤ 64 ∧ 1 ≤ cs.length ∧ cs.reverse.head? = some (fr : Int) ∧ cs.reverse.getLast? = some v ∧ ∃ d, WalkLaw.cost n l cs.reverse = (d, 0) ∧ d ≤ dg C v := by
  have hlo := (hi.lo v v0 v1).1
  obtain ⟨cs, h1, h2, h3, h4, h5, h6, h7⟩ := hi.chain hc (dg C v).toNat v v0 v1 hf (by omega)
  have hlen : cs.length ≤ 64 := Nat.le_trans (nodup_lenI h3 (fun m hm => (h2 m hm).1)) (by have := hg.hi; omega)
  have h1l : 1 ≤ cs.length := by cases cs with | nil => cases h4 | cons _ _ => simp
  have hz : (WalkLaw.cost n l cs.reverse).2 = 0 := WalkLaw.cost_zero.2 ⟨chk_zero.2 hg, by rw [List.length_reverse]; omega, by rw [List.length_reverse]; omega, by
    rw [List.any_eq_false]
    intro x hx
    have := (h2 x (List.mem_reverse.1 hx)).1
    simp [WalkLaw.outB]
    omega, h6⟩
  have hv := WalkLaw.cost_val (N := (n : Int)) (l := l) (p := cs.reverse)
  rw [if_pos hz] at hv
  exact ⟨cs, h1, fun x hx => (h2 x hx).1, hlen, h1l, by rw [List.head?_reverse]; exact h5, by rw [List.getLast?_reverse]; exact h4, _, Prod.ext hv hz, h7⟩
end
end Go.Proofs.Ytbgkkmcobijkgaa.FocalLaw

namespace Go.Proofs.Ytbgkkmcobijkgaa.FocalLaw
open NetLaw BellLaw DijkLaw HeurLaw StarLaw
set_option linter.unusedSimpArgs false
set_option linter.unusedVariables false
section
variable {n fr tt : Nat} {l : List E} {h ta : List Int} {p q : Int} {s s0 : List Int × List Int × List Bool} {ord ord0 : List Int}
/-- nothing comes behind what picks the end -/
theorem Fr.no_more (h0 : Fr n fr tt l h ta p q s0 ord0) (hp : pick n h ta s0.1 s0.2.2 p q = (tt : Int)) (hr : Fr n fr tt l h ta p q s ord) : ord.length ≤ ord0.length := by
  rcases Nat.lt_or_ge ord0.length ord.length with hlt | hge
  · exfalso
    obtain ⟨s', ord', v, h1, h2, h3, h4⟩ := hr.upto _ hlt
    obtain ⟨rfl, rfl⟩ := h1.same h0 h2
    rw [hp] at h3
    exact h4 (by omega)
  · exact hge
/-- what is less far goes on -/
theorem Fr.goes (h0 : Fr n fr tt l h ta p q s0 ord0) (hr : Fr n fr tt l h ta p q s ord) (hlt : ord.length < ord0.length) : ∃ v : Nat, pick n h ta s.1 s.2.2 p q = v ∧ v ≠ tt := by
  obtain ⟨s', ord', v, h1, h2, h3, h4⟩ := h0.upto _ hlt
  obtain ⟨rfl, rfl⟩ := h1.same hr h2
  exact ⟨v, h3, h4⟩
/-- it never says that there is none -/
theorem Fr.not_none (h0 : Fr n fr tt l h ta p q s0 ord0) (hp : pick n h ta s0.1 s0.2.2 p q = (tt : Int)) (hr : Fr n fr tt l h ta p q s ord) : ¬ pick n h ta s.1 s.2.2 p q < 0 := by
  intro hneg
  have hle := h0.no_more hp hr
  rcases Nat.lt_or_ge ord.length ord0.length with hlt | hge
  · obtain ⟨v, h1, _⟩ := h0.goes hr hlt
    omega
  · obtain ⟨rfl, rfl⟩ := hr.same h0 (by omega)
    omega
/-- there is but one find -/
theorem Fr.one_find (h0 : Fr n fr tt l h ta p q s0 ord0) (hp : pick n h ta s0.1 s0.2.2 p q = (tt : Int)) (hr : Fr n fr tt l h ta p q s ord) (hp' : pick n h ta s.1 s.2.2 p q = (tt : Int)) : s = s0 ∧ ord = ord0 :=
  hr.same h0 (Nat.le_antisymm (h0.no_more hp hr) (hr.no_more hp' h0))
end
/-- the small net, step by step -/
theorem two_fr {s : List Int × List Int × List Bool} {ord : List Int} (hr : Fr 2 0 1 [(0, 1, 5)] [0, 0] [0, 0] 1 1 s ord) : (s = ([0, far], [-1, -1], [true, false]) ∧ ord = []) ∨ (s = ([0, 5], [-1, 0], [false, true]) ∧ ord = [0]) := by
  have e0 : F0 2 0 [0, 0] = ([0, far], [-1, -1], [true, false]) := by decide
  have key : ∀ {s : List Int × List Int × List Bool} {ord : List Int}, Fr 2 0 1 [(0, 1, 5)] [0, 0] [0, 0] 1 1 s ord → (s = ([0, far], [-1, -1], [true, false]) ∧ ord = []) ∨ (s = ([0, 5], [-1, 0], [false, true]) ∧ ord = [0]) := by
    intro s ord hr
    induction hr with
    | start => exact .inl ⟨e0, rfl⟩
    | @step s ord v hr hn hv ih =>
      rcases ih with ⟨rfl, rfl⟩ | ⟨rfl, rfl⟩
      · have hp : pick 2 [0, 0] [0, 0] [0, far] [true, false] 1 1 = ((0 : Nat) : Int) := by decide
        rw [hp] at hn
        obtain rfl := Int.ofNat.inj hn
        exact .inr ⟨by decide, rfl⟩
      · have hp : pick 2 [0, 0] [0, 0] [0, 5] [false, true] 1 1 = ((1 : Nat) : Int) := by decide
        rw [hp] at hn
        exact absurd (Int.ofNat.inj hn).symm hv
  exact key hr
theorem two_pick0 : pick 2 [0, 0] [0, 0] [0, far] [true, false] 1 1 = 0 := by decide
theorem two_pick1 : pick 2 [0, 0] [0, 0] [0, 5] [false, true] 1 1 = 1 := by decide
end Go.Proofs.Ytbgkkmcobijkgaa.FocalLaw

namespace Go.Proofs.Ytbgkkmcobijkgaa.FocalLaw
open NetLaw BellLaw DijkLaw HeurLaw StarLaw
set_option linter.unusedSimpArgs false
set_option linter.unusedVariables false
section
variable {n fr : Nat} {l : List E} {h : List Int}
/-- what does not wait and has a cost has its edges relaxed, but for those out of v that are not seen -/
def Rx (n : Nat) (l : List E) (h : List Int) (v : Int) (todo : List E) (s : List Int × List Int × List Bool) : Prop :=
  ∀ e ∈ l, (e.1 = v → e ∉ todo) → s.2.2.getD e.1.toNat false = false → dg s.1 e.1 < far → dg h e.1 < far → dg h e.2.1 < far → dg s.1 e.2.1 ≤ dg s.1 e.1 + e.2.2
theorem fx1_mono {s : List Int × List Int × List Bool} (hi : Fi n fr l h s.1 s.2.1 s.2.2) (hends : ∀ e ∈ l, 0 ≤ e.1 ∧ e.1 < n ∧ 0 ≤ e.2.1 ∧ e.2.1 < n) {v : Nat} {e : E} (he : e ∈ l) (u : Int) (u0 : 0 ≤ u) :
    dg (fx1 h v s e).1 u ≤ dg s.1 u ∧ ((fx1 h v s e).2.2.getD u.toNat false = false → dg (fx1 h v s e).1 u = dg s.1 u ∧ s.2.2.getD u.toNat false = false) := by
  unfold fx1
  split
  · rename_i hx
    obtain ⟨_, _, t0, t1⟩ := hends e he
    obtain ⟨k, hk⟩ := Int.eq_ofNat_of_zero_le t0
    have hkn : k < n := by omega
    have hkt : e.2.1.toNat = k := by rw [hk, Int.toNat_natCast]
    simp only
    rw [hkt, dg_set hi.lc hkn _ u u0, getB_set hi.lb hkn]
    rw [hk] at hx
    by_cases huk : u = k
    · subst huk
      rw [if_pos rfl, Int.toNat_natCast, if_pos rfl]
      exact ⟨by have := hx.1; omega, fun h => by cases h⟩
    · rw [if_neg huk, if_neg (by omega)]
      exact ⟨Int.le_refl _, fun h => ⟨rfl, h⟩⟩
  · exact ⟨Int.le_refl _, fun h => ⟨rfl, h⟩⟩
theorem fx1_done {s : List Int × List Int × List Bool} (hi : Fi n fr l h s.1 s.2.1 s.2.2) (hends : ∀ e ∈ l, 0 ≤ e.1 ∧ e.1 < n ∧ 0 ≤ e.2.1 ∧ e.2.1 < n) {v : Nat} {e : E} (he : e ∈ l) (hh : dg h e.2.1 < far) : dg (fx1 h v s e).1 e.2.1 ≤ dg s.1 v + e.2.2 := by
  obtain ⟨_, _, t0, t1⟩ := hends e he
  obtain ⟨k, hk⟩ := Int.eq_ofNat_of_zero_le t0
  have hkn : k < n := by omega
  unfold fx1
  split
  · simp only
    rw [show e.2.1.toNat = k by rw [hk, Int.toNat_natCast], dg_set hi.lc hkn _ _ t0, if_pos hk]
    exact Int.le_refl _
  · rename_i hx
    exact Int.not_lt.1 fun h1 => hx ⟨h1, hh⟩
theorem Rx.all (hends : ∀ e ∈ l, 0 ≤ e.1 ∧ e.1 < n ∧ 0 ≤ e.2.1 ∧ e.2.1 < n) (hc : ∀ e ∈ l, 1 ≤ e.2.2) (hf : fr < n) {v : Nat} (hv : v < n) : ∀ (es : List E) (s : List Int × List Int × List Bool), (∀ e ∈ es, e ∈ l ∧ e.1 = v) → Fi n fr l h s.1 s.2.1 s.2.2 → dg s.1 v < far → Rx n l h v es s → Rx n l h v [] (fxs h v es s)
  | [], s, _, _, _, hr => hr
  | e :: r, s, hm, hi, hlt, hr => by
    obtain ⟨hel, hev⟩ := hm e (List.mem_cons_self ..)
    have h12 : Fi n fr l h (fx1 h v s e).1 (fx1 h v s e).2.1 (fx1 h v s e).2.2 ∧ dg (fx1 h v s e).1 v = dg s.1 v := hi.one hends hc hf hv hlt hel hev
    obtain ⟨h1, h2⟩ := h12
    refine Rx.all hends hc hf hv r (fx1 h v s e) (fun x hx => hm x (List.mem_cons_of_mem _ hx)) h1 (by rw [h2]; exact hlt) ?_
    intro x hx htodo hb hcf hh1 hh2
    obtain ⟨x0, x1, x2, x3⟩ := hends x hx
    obtain ⟨_, hm1⟩ := fx1_mono hi hends (v := v) hel x.1 x0
    obtain ⟨hm2, _⟩ := fx1_mono hi hends (v := v) hel x.2.1 x2
    obtain ⟨hsame, hbs⟩ := hm1 hb
    by_cases hxe : x = e
    · subst hxe
      have h3 := fx1_done hi hends (v := v) hel hh2
      rw [hev, h2]
      exact h3
    · have h3 := hr x hx (fun hxv hmem => by
        rcases List.mem_cons.1 hmem with h4 | h4
        · exact hxe h4
        · exact htodo hxv h4) hbs (by rw [← hsame]; exact hcf) hh1 hh2
      rw [hsame]
      omega
theorem Fr.rx {tt : Nat} {ta : List Int} {p q : Int} {s : List Int × List Int × List Bool} {ord : List Int} (hends : ∀ e ∈ l, 0 ≤ e.1 ∧ e.1 < n ∧ 0 ≤ e.2.1 ∧ e.2.1 < n) (hc : ∀ e ∈ l, 1 ≤ e.2.2) (hf : fr < n) (hr : Fr n fr tt l h ta p q s ord) : Rx n l h 0 [] s := by
  induction hr with
  | start =>
    intro e he _ hb hcf h1 h2
    obtain ⟨e0, e1, e2, e3⟩ := hends e he
    have hC : ∀ u : Int, 0 ≤ u → u < n → dg (F0 n fr h).1 u = if u = fr then 0 else far := fun u u0 u1 => by
      rw [F0]
      simp only
      rw [dg_set (n := n) (by simp) hf 0 u u0, rep_dg u0 u1]
    rw [hC _ e0 e1] at hcf
    split at hcf
    · rename_i hef
      exfalso
      rw [F0] at hb
      simp only at hb
      rw [hef, Int.toNat_natCast, getB_set (n := n) (by simp) hf, if_pos rfl] at hb
      rw [hef] at h1
      rw [decide_eq_true h1] at hb
      cases hb
    · exact absurd hcf (Int.lt_irrefl _)
  | @step s ord v hr hn hv ih =>
    obtain ⟨u, hu, he, hb, _⟩ := pick_some (h := h) (ta := ta) (C := s.1) (B := s.2.2) (p := p) (q := q) (n := n) (by rw [hn]; omega)
    rw [hn] at he
    obtain rfl := Int.ofNat.inj he
    have hi := hr.fi hends hc hf
    have hall := Rx.all hends hc hf hu (oe l v) (s.1, s.2.1, s.2.2.set v false) (fun e he => by
      rw [oe, List.mem_filter] at he
      exact ⟨he.1, by simpa using he.2⟩) (hi.off v hu) (hi.wt v hu hb).1 (fun e he htodo hbe hcf h1 h2 => by
        obtain ⟨e0, e1, e2, e3⟩ := hends e he
        by_cases hev : e.1 = v
        · exact absurd (List.mem_filter.2 ⟨he, by simpa using hev⟩) (htodo hev)
        · refine ih e he (fun _ hm => by cases hm) ?_ hcf h1 h2
          simp only at hbe
          rw [getB_set hi.lb hu, if_neg (by omega)] at hbe
          exact hbe)
    intro e he _ hbe hcf h1 h2
    exact hall e he (fun _ hm => by cases hm) hbe hcf h1 h2
/-- on a walk: its cost, or one that waits ahead of it -/
theorem front_of {tt : Nat} {s : List Int × List Int × List Bool} (hi : Fi n fr l h s.1 s.2.1 s.2.2) (hx : Rx n l h 0 [] s) (hC : HeurLaw.Cons n tt l h) (hends : ∀ e ∈ l, 0 ≤ e.1 ∧ e.1 < n ∧ 0 ≤ e.2.1 ∧ e.2.1 < n) (hc : ∀ e ∈ l, 1 ≤ e.2.2) (hf : fr < n) {v d : Int} (hw : Wk l fr v d) :
    (0 ≤ d ∧ 0 ≤ v ∧ v < n) ∧ (dg h v + d < far → dg s.1 v ≤ d ∨ ∃ u : Nat, u < n ∧ s.2.2.getD u false = true ∧ sm h s.1 u ≤ d + dg h v) := by
  induction hw with
  | here => exact ⟨⟨Int.le_refl _, by omega, by omega⟩, fun _ => .inl (by rw [hi.root]; exact Int.le_refl _)⟩
  | @step u d e hu he hev ih =>
    obtain ⟨e0, e1, e2, e3⟩ := hends e he
    have hc1 := hc e he
    have hed := hC.edge e he
    have hb1 := hC.bd e0 e1
    have hb2 := hC.bd e2 e3
    subst hev
    obtain ⟨⟨d0, u0, u1⟩, ih⟩ := ih
    refine ⟨⟨by omega, e2, e3⟩, fun hlt => ?_⟩
    rcases ih (by omega) with h1 | ⟨k, hk, hb, hs⟩
    · cases hb : s.2.2.getD e.1.toNat false with
      | true =>
        refine .inr ⟨e.1.toNat, by omega, hb, ?_⟩
        unfold sm
        rw [Int.toNat_of_nonneg e0]
        omega
      | false =>
        have h2 := hx e he (fun _ hm => by cases hm) hb (by omega) (by omega) (by omega)
        exact .inl (by omega)
    · exact .inr ⟨k, hk, hb, by omega⟩
/-- what is found costs no more than the weight times the least -/
theorem Fr.bound {tt : Nat} {ta : List Int} {p q : Int} {s : List Int × List Int × List Bool} {ord : List Int} (hC : HeurLaw.Cons n tt l h) (hends : ∀ e ∈ l, 0 ≤ e.1 ∧ e.1 < n ∧ 0 ≤ e.2.1 ∧ e.2.1 < n) (hc : ∀ e ∈ l, 1 ≤ e.2.2) (hf : fr < n) (ht : tt < n) (hq : 1 ≤ q) (hqp : q ≤ p) (hr : Fr n fr tt l h ta p q s ord) (hp : pick n h ta s.1 s.2.2 p q = (tt : Int)) {d : Int} (hw : Wk l fr tt d) (hd : d < far) : q * dg s.1 tt ≤ p * d := by
  have hi := hr.fi hends hc hf
  obtain ⟨⟨d0, _⟩, hfr⟩ := front_of hi (hr.rx hends hc hf) hC hends hc hf hw
  have hz := hC.zero
  obtain ⟨v, hv, he, hb, hle⟩ := pick_some (h := h) (ta := ta) (C := s.1) (B := s.2.2) (p := p) (q := q) (n := n) (by rw [hp]; omega)
  rw [hp] at he
  obtain rfl := Int.ofNat.inj he
  have hlo := (hi.lo tt (by omega) (by omega)).1
  rcases hfr (by omega) with h1 | ⟨u, hu, hbu, hs⟩
  · have h2 := Int.mul_le_mul hqp h1 hlo (show 0 ≤ p by omega)
    exact h2
  · have h2 := hle u hu hbu (by omega)
    rw [hz, Int.add_zero] at hs
    have h3 := Int.mul_le_mul_of_nonneg_left hs (show 0 ≤ p by omega)
    have h4 : sm h s.1 tt = dg s.1 tt := by unfold sm; omega
    rw [h4, Int.mul_comm] at h2
    omega
/-- what has a cost waits, or was looked from -/
theorem Fr.seen {tt : Nat} {ta : List Int} {p q : Int} {s : List Int × List Int × List Bool} {ord : List Int} (hends : ∀ e ∈ l, 0 ≤ e.1 ∧ e.1 < n ∧ 0 ≤ e.2.1 ∧ e.2.1 < n) (hc : ∀ e ∈ l, 1 ≤ e.2.2) (hf : fr < n) (hr : Fr n fr tt l h ta p q s ord) : (∀ v : Nat, v < n → dg s.1 v < far → dg h v < far → s.2.2.getD v false = true ∨ (v : Int) ∈ ord) ∧ (tt : Int) ∉ ord := by
  induction hr with
  | start =>
    refine ⟨fun v hv hcf hh => ?_, by simp⟩
    rw [F0] at hcf ⊢
    simp only at hcf ⊢
    rw [dg_set (n := n) (by simp) hf 0 v (by omega), rep_dg (by omega) (by omega)] at hcf
    split at hcf
    · rename_i hvf
      obtain rfl : v = fr := by omega
      rw [getB_set (n := n) (by simp) hf, if_pos rfl]
      exact .inl (decide_eq_true hh)
    · exact absurd hcf (Int.lt_irrefl _)
  | @step s ord v hr hn hv ih =>
    obtain ⟨u, hu, he, hb, _⟩ := pick_some (h := h) (ta := ta) (C := s.1) (B := s.2.2) (p := p) (q := q) (n := n) (by rw [hn]; omega)
    rw [hn] at he
    obtain rfl := Int.ofNat.inj he
    have hi := hr.fi hends hc hf
    have key : ∀ (es : List E) (x : List Int × List Int × List Bool), (∀ e ∈ es, e ∈ l ∧ e.1 = v) → Fi n fr l h x.1 x.2.1 x.2.2 → dg x.1 v < far → (∀ w : Nat, w < n → dg x.1 w < far → dg h w < far → x.2.2.getD w false = true ∨ (w : Int) ∈ ord ++ [(v : Int)]) → ∀ w : Nat, w < n → dg (fxs h v es x).1 w < far → dg h w < far → (fxs h v es x).2.2.getD w false = true ∨ (w : Int) ∈ ord ++ [(v : Int)] := by
      intro es
      induction es with
      | nil => intro x _ _ _ hx; exact hx
      | cons e r ihr =>
        intro x hm hix hlt hx
        obtain ⟨hel, hev⟩ := hm e (List.mem_cons_self ..)
        have h12 : Fi n fr l h (fx1 h v x e).1 (fx1 h v x e).2.1 (fx1 h v x e).2.2 ∧ dg (fx1 h v x e).1 v = dg x.1 v := hix.one hends hc hf hu hlt hel hev
        refine ihr (fx1 h v x e) (fun y hy => hm y (List.mem_cons_of_mem _ hy)) h12.1 (by rw [h12.2]; exact hlt) (fun w hw hcf hh => ?_)
        cases hbw : (fx1 h v x e).2.2.getD w false with
        | true => exact .inl rfl
        | false =>
          obtain ⟨_, hm1⟩ := fx1_mono hix hends (v := v) hel w (by omega)
          rw [Int.toNat_natCast] at hm1
          obtain ⟨h1, h2⟩ := hm1 hbw
          rcases hx w hw (by rw [← h1]; exact hcf) hh with h3 | h3
          · rw [h2] at h3; cases h3
          · exact .inr h3
    refine ⟨key (oe l v) (s.1, s.2.1, s.2.2.set v false) (fun e he => by
      rw [oe, List.mem_filter] at he
      exact ⟨he.1, by simpa using he.2⟩) (hi.off v hu) (hi.wt v hu hb).1 (fun w hw hcf hh => ?_), ?_⟩
    · simp only
      rw [getB_set hi.lb hu]
      by_cases hwv : w = v
      · subst hwv; exact .inr (by simp)
      · rw [if_neg hwv]
        rcases ih.1 w hw hcf hh with h1 | h1
        · exact .inl h1
        · exact .inr (List.mem_append_left _ h1)
    · rw [List.mem_append, List.mem_singleton]
      rintro (h1 | h1)
      · exact ih.2 h1
      · exact hv (by omega)
/-- none waits: there is no walk to the end -/
theorem Fr.none {tt : Nat} {ta : List Int} {p q : Int} {s : List Int × List Int × List Bool} {ord : List Int} (hC : HeurLaw.Cons n tt l h) (hends : ∀ e ∈ l, 0 ≤ e.1 ∧ e.1 < n ∧ 0 ≤ e.2.1 ∧ e.2.1 < n) (hc : ∀ e ∈ l, 1 ≤ e.2.2) (hf : fr < n) (ht : tt < n) (hq : 1 ≤ q) (hqp : q ≤ p) (hr : Fr n fr tt l h ta p q s ord) (hp : pick n h ta s.1 s.2.2 p q < 0) {M : List Int} (hM : Sh n fr l M) : dg M tt = far := by
  have hi := hr.fi hends hc hf
  have hno := pick_none (h := h) (ta := ta) (C := s.1) (B := s.2.2) (n := n) hq hqp (fun v hv => by
    have h1 := hi.lo v (by omega) (by omega)
    have h2 := hC.bd (v := (v : Int)) (by omega) (by omega)
    unfold sm
    omega) hp
  have hlo := hM.lo tt (by omega) (by omega)
  by_cases hlt : dg M tt < far
  · obtain ⟨_, hfr⟩ := front_of hi (hr.rx hends hc hf) hC hends hc hf (hM.wk tt (by omega) (by omega) hlt)
    have hz := hC.zero
    rcases hfr (by omega) with h1 | ⟨u, hu, hb, _⟩
    · obtain ⟨h2, h3⟩ := hr.seen hends hc hf
      rcases h2 tt ht (by omega) (by rw [hz]; unfold far; omega) with h4 | h4
      · rw [hno tt ht] at h4; cases h4
      · exact absurd h4 h3
    · rw [hno u hu] at hb; cases hb
  · omega
end
end Go.Proofs.Ytbgkkmcobijkgaa.FocalLaw

namespace Go.Proofs.Ytbgkkmcobijkgaa.FocalLaw
open NetLaw BellLaw DijkLaw HeurLaw StarLaw
set_option linter.unusedSimpArgs false
set_option linter.unusedVariables false
section
variable {n fr tt : Nat} {l : List E} {h ta : List Int} {p q : Int} {s : List Int × List Int × List Bool} {ord : List Int}
theorem first_pick (hf : fr < n) {v : Nat} (hp : pick n h ta (F0 n fr h).1 (F0 n fr h).2.2 p q = v) : v = fr := by
  obtain ⟨u, hu, he, hb, _⟩ := pick_some (h := h) (ta := ta) (C := (F0 n fr h).1) (B := (F0 n fr h).2.2) (p := p) (q := q) (n := n) (by rw [hp]; omega)
  rw [hp] at he
  obtain rfl := Int.ofNat.inj he
  rw [F0] at hb
  simp only at hb
  rw [getB_set (n := n) (by simp) hf] at hb
  split at hb
  · rename_i h1; exact h1
  · rw [List.getD_eq_getElem?_getD, List.getElem?_replicate, if_pos hu] at hb
    cases hb
theorem Fr.head (hf : fr < n) (hr : Fr n fr tt l h ta p q s ord) : (ord = [] ∧ s = F0 n fr h) ∨ ord.head? = some (fr : Int) := by
  induction hr with
  | start => exact .inl ⟨rfl, rfl⟩
  | @step s ord v hr hn hv ih =>
    rcases ih with ⟨rfl, rfl⟩ | h1
    · rw [first_pick hf hn]
      exact .inr rfl
    · refine .inr ?_
      cases ord with
      | nil => cases h1
      | cons a r => exact h1
/-- what is found begins with the start -/
theorem Fr.found_head (hf : fr < n) (hr : Fr n fr tt l h ta p q s ord) (hp : pick n h ta s.1 s.2.2 p q = (tt : Int)) : (ord ++ [(tt : Int)]).head? = some (fr : Int) := by
  rcases hr.head hf with ⟨rfl, rfl⟩ | h1
  · rw [first_pick hf hp]
    rfl
  · cases ord with
    | nil => cases h1
    | cons a r => exact h1
end
end Go.Proofs.Ytbgkkmcobijkgaa.FocalLaw
