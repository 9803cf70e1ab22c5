/- Plain facts on the net of a grid: no Go in sight. -/
/- Plain facts on squares, doors and the net of doors: no Go in sight. -/
import Derived.Test.YtbgkkmcobijkgaaVGridBackLaw
import Derived.Test.YtbgkkmcobijkgaaVNetTurn
import Derived.Test.YtbgkkmcobijkgaaVDijkLaw
namespace Go.Proofs.Ytbgkkmcobijkgaa.GroundLaw
open Go.Proofs.Ytbgkkmcobijkgaa.GridLaw Go.Proofs.Ytbgkkmcobijkgaa.Net
set_option linter.unusedSimpArgs false
set_option linter.unusedVariables false
/-- the moves from the first k places -/
def allM (W H : Int) (l : List Int) (k : Nat) : List E := (List.range k).flatMap fun (v : Nat) => mv W H l ((v : Int) % W) ((v : Int) / W)
theorem allM_succ (W H : Int) (l : List Int) (k : Nat) : allM W H l (k + 1) = allM W H l k ++ mv W H l ((k : Int) % W) ((k : Int) / W) := by
  unfold allM
  rw [List.range_succ, List.flatMap_append]
  simp
theorem allM_len (W H : Int) (l : List Int) (k : Nat) : (allM W H l k).length ≤ 8 * k := by
  induction k with
  | zero => simp [allM]
  | succ k ih =>
    rw [allM_succ, List.length_append]
    have := mv_eight W H l ((k : Int) % W) ((k : Int) / W)
    omega
theorem mem_allM {W H : Int} {l : List Int} {k : Nat} {e : E} : e ∈ allM W H l k ↔ ∃ v : Nat, v < k ∧ e ∈ mv W H l ((v : Int) % W) ((v : Int) / W) := by
  unfold allM
  rw [List.mem_flatMap]
  constructor
  · rintro ⟨v, hv, h⟩
    exact ⟨v, List.mem_range.1 hv, h⟩
  · rintro ⟨v, hv, h⟩
    exact ⟨v, List.mem_range.2 hv, h⟩
theorem mv_cost {W H : Int} {l : List Int} (hg : GGood W H l) {x y f t k : Int} (h : (f, t, k) ∈ mv W H l x y) : 1 ≤ k ∧ k ≤ 126 := by
  obtain ⟨h0, s, hs, hm⟩ := mem_mv.1 h
  obtain ⟨_, _, hn⟩ := mvS_some hm
  have b1 := gr_bd hg x y
  have b2 := gr_bd hg (x + s.1) (y + s.2)
  unfold mvS at hm
  rw [if_neg hn] at hm
  split at hm
  · split at hm
    · cases hm
    · simp only [Option.some.injEq, Prod.mk.injEq] at hm
      omega
  · simp only [Option.some.injEq, Prod.mk.injEq] at hm
    omega
theorem size_bd {W H : Int} {l : List Int} (hg : GGood W H l) : 1 ≤ l.length ∧ l.length ≤ 64 := by
  have h := hg.len
  have h1 : 0 < W * H := Int.mul_pos (by have := hg.w1; omega) (by have := hg.h1; omega)
  have h2 : W * H ≤ 8 * 8 := Int.mul_le_mul hg.w8 hg.h8 (by have := hg.h1; omega) (by omega)
  omega
theorem ground_good {W H : Int} {l : List Int} (hg : GGood W H l) : NetLaw.Good l.length (allM W H l l.length) := by
  have hb := size_bd hg
  refine ⟨by omega, by omega, by have := allM_len W H l l.length; omega, fun e he => ?_, fun e he => ?_⟩
  · obtain ⟨v, hv, hm⟩ := mem_allM.1 he
    obtain ⟨f, t, k⟩ := e
    obtain ⟨h1, h2, h3, _⟩ := mv_back hm
    have h4 : (v : Int) / W * W + (v : Int) % W = v := Int.ediv_mul_add_emod _ W
    have h5 := hg.len
    simp only
    omega
  · obtain ⟨v, hv, hm⟩ := mem_allM.1 he
    obtain ⟨f, t, k⟩ := e
    have := mv_cost hg hm
    simp only
    omega
theorem ground_pos {W H : Int} {l : List Int} (hg : GGood W H l) : ∀ e ∈ allM W H l l.length, 1 ≤ e.2.2 := fun e he => by
  obtain ⟨v, hv, hm⟩ := mem_allM.1 he
  obtain ⟨f, t, k⟩ := e
  exact (mv_cost hg hm).1
theorem ground_back {W H : Int} {l : List Int} (hg : GGood W H l) : ∀ e ∈ allM W H l l.length, e ∈ tl (allM W H l l.length) := fun e he => by
  obtain ⟨v, hv, hm⟩ := mem_allM.1 he
  obtain ⟨f, t, k⟩ := e
  obtain ⟨h1, h2, h3, h4⟩ := mv_back hm
  have h5 := hg.len
  obtain ⟨t, rfl⟩ := Int.eq_ofNat_of_zero_le h2
  unfold tl
  rw [List.mem_map]
  exact ⟨(t, f, k), mem_allM.2 ⟨t, by omega, h4⟩, rfl⟩
end Go.Proofs.Ytbgkkmcobijkgaa.GroundLaw

namespace Go.Proofs.Ytbgkkmcobijkgaa.HierLaw
open Go.Proofs.Ytbgkkmcobijkgaa GridLaw GroundLaw NetLaw BellLaw DijkLaw
set_option linter.unusedSimpArgs false
set_option linter.unusedVariables false
abbrev E3 := Int × Int × Int
def sq (W k v : Int) : Int := v / W / k * ((W + k - 1) / k) + v % W / k
def inn (W k : Int) (l : List E3) : List E3 := l.filter fun e => decide (sq W k e.1 = sq W k e.2.1)
def btw (W k : Int) (l : List E3) : List E3 := l.filter fun e => !decide (sq W k e.1 = sq W k e.2.1)
def isD (b : List E3) (v : Int) : Bool := b.any fun e => decide (e.1 = v) || decide (e.2.1 = v)
/-- what look answers -/
def lk (W H : Int) (l : List Int) (k : Int) : Int := if gchk W H l ≠ 0 then gchk W H l else if k < 1 ∨ 8 < k then 1 else 0
theorem lk_zero {W H : Int} {l : List Int} {k : Int} : lk W H l k = 0 ↔ GGood W H l ∧ 1 ≤ k ∧ k ≤ 8 := by
  unfold lk
  rw [← gchk_zero]
  by_cases h : gchk W H l = 0
  · rw [if_neg (by simp [h])]
    by_cases h2 : k < 1 ∨ 8 < k
    · rw [if_pos h2]
      constructor
      · intro x
        cases x
      · intro x
        omega
    · rw [if_neg h2]
      constructor
      · intro _
        exact ⟨h, by omega, by omega⟩
      · intro _
        rfl
  · rw [if_pos h]
    exact ⟨fun x => absurd x h, fun x => absurd x.1 h⟩
theorem mem_parts {W k : Int} {l : List E3} {e : E3} (h : e ∈ l) : e ∈ inn W k l ∨ e ∈ btw W k l := by
  unfold inn btw
  rw [List.mem_filter, List.mem_filter]
  by_cases hs : sq W k e.1 = sq W k e.2.1
  · exact .inl ⟨h, by simp [hs]⟩
  · exact .inr ⟨h, by simp [hs]⟩
theorem inn_sub {W k : Int} {l : List E3} {e : E3} (h : e ∈ inn W k l) : e ∈ l := (List.mem_filter.1 h).1
theorem btw_sub {W k : Int} {l : List E3} {e : E3} (h : e ∈ btw W k l) : e ∈ l := (List.mem_filter.1 h).1
theorem inn_len (W k : Int) (l : List E3) : (inn W k l).length ≤ l.length := List.length_filter_le _ _
theorem btw_len (W k : Int) (l : List E3) : (btw W k l).length ≤ l.length := List.length_filter_le _ _
theorem isD_ends {b : List E3} {e : E3} (h : e ∈ b) : isD b e.1 = true ∧ isD b e.2.1 = true := by
  unfold isD
  exact ⟨List.any_eq_true.2 ⟨e, h, by simp⟩, List.any_eq_true.2 ⟨e, h, by simp⟩⟩
/-- the doors, in order -/
def drs (b : List E3) (n : Nat) : List Int := ((List.range n).filter fun (v : Nat) => isD b (v : Int)).map fun (v : Nat) => (v : Int)
theorem drs_succ (b : List E3) (n : Nat) : drs b (n + 1) = drs b n ++ (if isD b (n : Int) then [(n : Int)] else []) := by
  unfold drs
  rw [List.range_succ, List.filter_append, List.map_append]
  congr 1
  by_cases h : isD b (n : Int) = true
  · simp [h]
  · simp [h]
theorem mem_drs {b : List E3} {n : Nat} {z : Int} : z ∈ drs b n ↔ (0 ≤ z ∧ z < n) ∧ isD b z = true := by
  unfold drs
  rw [List.mem_map]
  constructor
  · rintro ⟨v, hv, rfl⟩
    rw [List.mem_filter, List.mem_range] at hv
    exact ⟨by omega, hv.2⟩
  · rintro ⟨⟨h0, h1⟩, h2⟩
    obtain ⟨v, rfl⟩ : ∃ v : Nat, z = v := ⟨z.toNat, by omega⟩
    exact ⟨v, by rw [List.mem_filter, List.mem_range]; exact ⟨by omega, h2⟩, rfl⟩
theorem drs_len (b : List E3) (n : Nat) : (drs b n).length ≤ n := by
  unfold drs
  rw [List.length_map]
  exact Nat.le_trans (List.length_filter_le _ _) (by simp)
theorem drs_sorted (b : List E3) (n : Nat) : (drs b n).Pairwise (· < ·) := by
  unfold drs
  rw [List.pairwise_map]
  refine (List.pairwise_lt_range.filter _).imp ?_
  intro a b h
  omega
/-- the net of doors -/
structure Abs (N : Int) (ins bts abs : List E3) (is : Int → Bool) (Dn : Int → List Int) : Prop where
  edge : ∀ e ∈ abs, e ∈ bts ∨ (is e.1 = true ∧ (0 ≤ e.1 ∧ e.1 < N) ∧ (0 ≤ e.2.1 ∧ e.2.1 < N) ∧ dg (Dn e.1) e.2.1 = e.2.2 ∧ e.2.2 < far)
  has : ∀ a b, 0 ≤ a → a < N → 0 ≤ b → b < N → is a = true → is b = true → a ≠ b → dg (Dn a) b < far → (a, b, dg (Dn a) b) ∈ abs
  bt : ∀ e ∈ bts, e ∈ abs
theorem in_le {N fr a : Int} {all ins : List E3} {D : List Int} (h : Sh N fr all D) (hsub : ∀ e ∈ ins, e ∈ all) (hc : ∀ e ∈ all, 0 ≤ e.2.2) {v c : Int} (hw : Wk ins a v c) : dg D a + c < far → dg D v ≤ dg D a + c := by
  induction hw with
  | here => intro _; omega
  | step hu he hf ih =>
    intro hl
    have h0 := hc _ (hsub _ he)
    have h1 := ih (by omega)
    have h2 := h.still _ (hsub _ he) (by rw [hf]; omega)
    rw [hf] at h2
    omega
theorem wk_pos {l : List E3} {a v c : Int} (hc : ∀ e ∈ l, 0 ≤ e.2.2) (hw : Wk l a v c) : 0 ≤ c := by
  induction hw with
  | here => exact Int.le_refl _
  | step hu he hf ih =>
    have := hc _ he
    omega
section
variable {N fr : Int} {all ins bts abs : List E3} {is : Int → Bool} {Dn : Int → List Int} {D DA : List Int}
theorem to_abs (hA : Abs N ins bts abs is Dn) (hDA : Sh N fr abs DA) (hDn : ∀ a, 0 ≤ a → a < N → is a = true → Sh N a ins (Dn a)) (hpart : ∀ e ∈ all, e ∈ ins ∨ e ∈ bts) (hends : ∀ e ∈ all, 0 ≤ e.1 ∧ e.1 < N ∧ 0 ≤ e.2.1 ∧ e.2.1 < N)
    (hd : ∀ e ∈ bts, is e.1 = true ∧ is e.2.1 = true) (hc : ∀ e ∈ all, 0 ≤ e.2.2) (hf0 : 0 ≤ fr) (hf1 : fr < N) (hfi : is fr = true) {v d : Int} (hw : Wk all fr v d) : d < far →
    (0 ≤ v ∧ v < N) ∧ ∃ x, (0 ≤ x ∧ x < N) ∧ is x = true ∧ dg DA x + dg (Dn x) v ≤ d := by
  induction hw with
  | here =>
    intro _
    refine ⟨⟨hf0, hf1⟩, fr, ⟨hf0, hf1⟩, hfi, ?_⟩
    rw [hDA.st, (hDn fr hf0 hf1 hfi).st]
    omega
  | @step u d e hu he hfe ih =>
    intro hl
    have h0 := hc _ he
    obtain ⟨e0, e1, e2, e3⟩ := hends _ he
    obtain ⟨_, x, ⟨x0, x1⟩, hx, hle⟩ := ih (by omega)
    have a0 := (hDA.lo x x0 x1).1
    have b0 := ((hDn x x0 x1 hx).lo e.1 e0 e1).1
    subst hfe
    refine ⟨⟨e2, e3⟩, ?_⟩
    rcases hpart _ he with hi | hb
    · have h1 := (hDn x x0 x1 hx).still e hi (by omega)
      exact ⟨x, ⟨x0, x1⟩, hx, by omega⟩
    · obtain ⟨i1, i2⟩ := hd e hb
      have h1 : dg DA e.1 ≤ dg DA x + dg (Dn x) e.1 := by
        by_cases hxe : x = e.1
        · subst hxe
          rw [(hDn _ x0 x1 hx).st]
          omega
        · exact hDA.still _ (hA.has x e.1 x0 x1 e0 e1 hx i1 hxe (by omega)) (by simp only; omega)
      have h2 := hDA.still e (hA.bt e hb) (by omega)
      refine ⟨e.2.1, ⟨e2, e3⟩, i2, ?_⟩
      rw [(hDn _ e2 e3 i2).st]
      omega
theorem of_abs (hA : Abs N ins bts abs is Dn) (hD : Sh N fr all D) (hDn : ∀ a, 0 ≤ a → a < N → is a = true → Sh N a ins (Dn a)) (hsub : ∀ e ∈ ins, e ∈ all) (hsub2 : ∀ e ∈ bts, e ∈ all) (hc : ∀ e ∈ all, 0 ≤ e.2.2) {v d : Int} (hw : Wk abs fr v d) : d < far → dg D v ≤ d := by
  induction hw with
  | here =>
    intro _
    rw [hD.st]
    exact Int.le_refl _
  | @step u d e hu he hfe ih =>
    intro hl
    subst hfe
    rcases hA.edge e he with hb | ⟨his, ⟨a0, a1⟩, ⟨b0, b1⟩, h1, h2⟩
    · have h0 := hc _ (hsub2 _ hb)
      have h3 := ih (by omega)
      have h4 := hD.still e (hsub2 _ hb) (by omega)
      omega
    · have hw := (hDn e.1 a0 a1 his).wk e.2.1 b0 b1 (by omega)
      rw [h1] at hw
      have hp := wk_pos (fun e he => hc e (hsub e he)) hw
      have h3 := ih (by omega)
      have h4 := in_le hD hsub hc hw (by omega)
      omega
/-- over doors it costs what it costs without -/
theorem same_cost (hA : Abs N ins bts abs is Dn) (hD : Sh N fr all D) (hDA : Sh N fr abs DA) (hDn : ∀ a, 0 ≤ a → a < N → is a = true → Sh N a ins (Dn a)) (hpart : ∀ e ∈ all, e ∈ ins ∨ e ∈ bts) (hsub : ∀ e ∈ ins, e ∈ all) (hsub2 : ∀ e ∈ bts, e ∈ all)
    (hends : ∀ e ∈ all, 0 ≤ e.1 ∧ e.1 < N ∧ 0 ≤ e.2.1 ∧ e.2.1 < N) (hd : ∀ e ∈ bts, is e.1 = true ∧ is e.2.1 = true) (hc : ∀ e ∈ all, 0 ≤ e.2.2) (hf0 : 0 ≤ fr) (hf1 : fr < N) (hfi : is fr = true) {to : Int} (t0 : 0 ≤ to) (t1 : to < N) (hti : is to = true) : dg DA to = dg D to := by
  have l1 := hD.lo to t0 t1
  have l2 := hDA.lo to t0 t1
  have h1 : dg DA to ≤ dg D to := by
    by_cases h : dg D to < far
    · obtain ⟨_, x, ⟨x0, x1⟩, hx, hle⟩ := to_abs hA hDA hDn hpart hends hd hc hf0 hf1 hfi (hD.wk to t0 t1 h) h
      have a0 := (hDA.lo x x0 x1).1
      have b0 := ((hDn x x0 x1 hx).lo to t0 t1).1
      by_cases hxe : x = to
      · subst hxe
        rw [(hDn _ x0 x1 hx).st] at hle
        omega
      · have := hDA.still _ (hA.has x to x0 x1 t0 t1 hx hti hxe (by omega)) (by simp only; omega)
        simp only at this
        omega
    · omega
  have h2 : dg D to ≤ dg DA to := by
    by_cases h : dg DA to < far
    · exact of_abs hA hD hDn hsub hsub2 hc (hDA.wk to t0 t1 h) h
    · omega
  omega
end
/-- the net of doors as it is made: all of the first B places have their costs; edges from those below A, and from A to those below j -/
structure AbsP (n : Nat) (ins : List E3) (is : Int → Bool) (Dn : Int → List Int) (B A j : Nat) (L : List E3) : Prop where
  edge : ∀ e ∈ L, is e.1 = true ∧ (0 ≤ e.1 ∧ e.1 < B) ∧ (0 ≤ e.2.1 ∧ e.2.1 < n) ∧ dg (Dn e.1) e.2.1 = e.2.2 ∧ e.2.2 < far
  has : ∀ a b : Nat, b < n → is a = true → is b = true → a ≠ b → dg (Dn a) b < far → (a < A ∨ a = A ∧ b < j) → ((a : Int), (b : Int), dg (Dn a) b) ∈ L
  sh : ∀ a : Nat, a < B → is a = true → Sh n a ins (Dn a)
  len : L.length ≤ 64 * A + j
section
variable {n B A j : Nat} {ins bts L : List E3} {is : Int → Bool} {Dn : Int → List Int} {D : List Int}
theorem AbsP.start : AbsP n ins is Dn 0 0 0 [] := ⟨fun e h => (by cases h), fun a b _ _ _ _ _ h => by omega, fun a h => by omega, by simp⟩
def updD (Dn : Int → List Int) (A : Nat) (D : List Int) : Int → List Int := fun x => if x = (A : Int) then D else Dn x
theorem updD_self (Dn : Int → List Int) (A : Nat) (D : List Int) : updD Dn A D (A : Int) = D := if_pos rfl
theorem AbsP.enter (h : AbsP n ins is Dn A A 0 L) (hD : Sh n A ins D) : AbsP n ins is (updD Dn A D) (A + 1) A 0 L := by
  have hne : ∀ x : Int, x < A → updD Dn A D x = Dn x := fun x hx => if_neg (by omega)
  refine ⟨fun e he => ?_, fun a b hb ha hb2 hab hf ho => ?_, fun a ha hia => ?_, h.len⟩
  · obtain ⟨h1, ⟨h2, h3⟩, h4, h5, h6⟩ := h.edge e he
    exact ⟨h1, ⟨h2, by omega⟩, h4, by rw [hne _ h3]; exact h5, h6⟩
  · have hlt : a < A := by omega
    rw [hne _ (by omega)] at hf ⊢
    exact h.has a b hb ha hb2 hab hf (.inl hlt)
  · by_cases e : a = A
    · subst e; rw [updD_self]; exact hD
    · rw [hne _ (by omega)]; exact h.sh a (by omega) hia
theorem AbsP.skip (h : AbsP n ins is Dn (A + 1) A j L) (hno : ¬ (is (j : Int) = true ∧ (j : Int) ≠ A ∧ dg (Dn A) j < far)) : AbsP n ins is Dn (A + 1) A (j + 1) L :=
  ⟨h.edge, fun a b hb ha hb2 hab hf ho => by
    rcases ho with ho | ⟨rfl, ho⟩
    · exact h.has a b hb ha hb2 hab hf (.inl ho)
    · by_cases e : b = j
      · subst e; exact absurd ⟨hb2, by omega, hf⟩ hno
      · exact h.has a b hb ha hb2 hab hf (.inr ⟨rfl, by omega⟩), h.sh, Nat.le_succ_of_le h.len⟩
theorem AbsP.push (h : AbsP n ins is Dn (A + 1) A j L) (hA : is (A : Int) = true) (hj : j < n) (hfj : dg (Dn A) j < far) : AbsP n ins is Dn (A + 1) A (j + 1) (L ++ [((A : Int), (j : Int), dg (Dn A) j)]) :=
  ⟨fun e he => by
    rcases List.mem_append.1 he with he | he
    · exact h.edge e he
    · rw [List.mem_singleton] at he
      subst he
      exact ⟨hA, ⟨by simp only; omega, by simp only; omega⟩, ⟨by simp only; omega, by simp only; omega⟩, rfl, hfj⟩,
   fun a b hb ha hb2 hab hf ho => by
    rcases ho with ho | ⟨rfl, ho⟩
    · exact List.mem_append_left _ (h.has a b hb ha hb2 hab hf (.inl ho))
    · by_cases e : b = j
      · subst e; exact List.mem_append_right _ (List.mem_singleton.2 rfl)
      · exact List.mem_append_left _ (h.has a b hb ha hb2 hab hf (.inr ⟨rfl, by omega⟩)), h.sh, by rw [List.length_append]; have := h.len; simp; omega⟩
theorem AbsP.leave (h : AbsP n ins is Dn (A + 1) A n L) (hn : n ≤ 64) : AbsP n ins is Dn (A + 1) (A + 1) 0 L :=
  ⟨h.edge, fun a b hb ha hb2 hab hf ho => h.has a b hb ha hb2 hab hf (by omega), h.sh, by have := h.len; omega⟩
theorem AbsP.pass (h : AbsP n ins is Dn A A 0 L) (hA : is (A : Int) = false) : AbsP n ins is Dn (A + 1) (A + 1) 0 L :=
  ⟨fun e he => by
    obtain ⟨h1, ⟨h2, h3⟩, h4, h5, h6⟩ := h.edge e he
    exact ⟨h1, ⟨h2, by omega⟩, h4, h5, h6⟩, fun a b hb ha hb2 hab hf ho => by
    by_cases e : a = A
    · subst e; rw [hA] at ha; cases ha
    · exact h.has a b hb ha hb2 hab hf (by omega), fun a ha hia => by
    by_cases e : a = A
    · subst e; rw [hA] at hia; cases hia
    · exact h.sh a (by omega) hia, by have := h.len; omega⟩
theorem AbsP.fin (h : AbsP n ins is Dn n n 0 L) : Abs n ins bts (L ++ bts) is Dn ∧ (∀ a : Int, 0 ≤ a → a < n → is a = true → Sh n a ins (Dn a)) := by
  refine ⟨⟨fun e he => ?_, fun a b a0 a1 b0 b1 ha hb hab hf => ?_, fun e he => List.mem_append_right _ he⟩, fun a a0 a1 ha => ?_⟩
  · rcases List.mem_append.1 he with he | he
    · exact .inr (h.edge e he)
    · exact .inl he
  · obtain ⟨a, rfl⟩ := Int.eq_ofNat_of_zero_le a0
    obtain ⟨b, rfl⟩ := Int.eq_ofNat_of_zero_le b0
    exact List.mem_append_left _ (h.has a b (by omega) ha hb (by omega) hf (.inl (by omega)))
  · obtain ⟨a, rfl⟩ := Int.eq_ofNat_of_zero_le a0
    exact h.sh a (by omega) ha
end
/-- cells that are doors or in a list -/
def mrk (b : List E3) (too : List Int) (n : Nat) : List Bool := (List.range n).map fun (v : Nat) => isD b (v : Int) || decide ((v : Int) ∈ too)
theorem mrk_len (b : List E3) (too : List Int) (n : Nat) : (mrk b too n).length = n := by simp [mrk]
theorem mrk_get {b : List E3} {too : List Int} {n k : Nat} (h : k < n) : (mrk b too n).getD k false = (isD b (k : Int) || decide ((k : Int) ∈ too)) := by
  rw [List.getD_eq_getElem?_getD, mrk, List.getElem?_map, List.getElem?_range h]
  rfl
theorem mrk_step {b : List E3} {too : List Int} {n j x : Nat} (hj : j < too.length) (he : too[j] = (x : Int)) : (mrk b (too.take j) n).set x true = mrk b (too.take (j + 1)) n := by
  rw [List.take_succ_eq_append_getElem hj, he]
  apply List.ext_getElem
  · simp [mrk]
  · intro i h1 h2
    rw [List.getElem_set]
    simp only [mrk, List.getElem_map, List.getElem_range, List.mem_append, List.mem_singleton]
    by_cases e1 : x = i
    · subst e1; simp
    · rw [if_neg e1]
      have e3 : ¬ (i : Int) = (x : Int) := by omega
      simp [e3]
theorem in_square {W k a v c : Int} {l : List E3} (hw : Wk (inn W k l) a v c) : sq W k v = sq W k a := by
  induction hw with
  | here => rfl
  | step hu he hf ih =>
    have h1 := (List.mem_filter.1 he).2
    have h2 := of_decide_eq_true h1
    rw [← h2, hf, ih]
theorem sq_zero {W H v : Int} (hW : 1 ≤ W) (hW8 : W ≤ 8) (hH8 : H ≤ 8) (h0 : 0 ≤ v) (h1 : v < W * H) : sq W 8 v = 0 := by
  unfold sq
  have e1 : v / W < H := Int.ediv_lt_of_lt_mul (by omega) (by rw [Int.mul_comm]; exact h1)
  have e2 : 0 ≤ v / W := Int.ediv_nonneg h0 (by omega)
  have e3 := Int.emod_nonneg v (show W ≠ 0 by omega)
  have e4 := Int.emod_lt_of_pos v (show 0 < W by omega)
  have a1 : v / W / 8 = 0 := by omega
  have a2 : v % W / 8 = 0 := by omega
  rw [a1, a2]
  omega
theorem inn_all {W k : Int} {l : List E3} (h : ∀ e ∈ l, sq W k e.1 = sq W k e.2.1) : inn W k l = l := by
  unfold inn
  exact List.filter_eq_self.2 fun e he => by simp [h e he]
end Go.Proofs.Ytbgkkmcobijkgaa.HierLaw
