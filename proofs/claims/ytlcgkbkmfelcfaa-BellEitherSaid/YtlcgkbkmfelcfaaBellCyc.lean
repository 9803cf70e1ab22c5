/- Plain: where Bellman and Ford's rounds do not end, the ways back lead round a cycle that costs less than 0. No Go in sight. -/
import Derived.Test.YtlcgkbkmfelcfaaWayLaw
namespace Go.Proofs.Ytlcgkbkmfelcfaa.BellCyc
open NetLaw BellLaw WalkLaw WayLaw
set_option linter.unusedSimpArgs false
set_option linter.unusedVariables false
/-- i steps back -/
def it (P : List Int) : Nat → Int → Int
  | 0, v => v
  | i + 1, v => dg P (it P i v)
theorem it_add (P : List Int) (i j : Nat) (v : Int) : it P (i + j) v = it P i (it P j v) := by
  induction i with
  | zero => rw [Nat.zero_add]; rfl
  | succ i ih => rw [Nat.succ_add, it, it, ih]
theorem it_one (P : List Int) (i : Nat) (v : Int) : it P (i + 1) v = it P i (dg P v) := it_add P i 1 v
/-- what they cost -/
def sm (l : List E) (P : List Int) : Nat → Int → Int
  | 0, _ => 0
  | i + 1, v => sm l P i v + (eg l (it P (i + 1) v) (it P i v)).1
theorem sm_one (l : List E) (P : List Int) (i : Nat) (v : Int) : sm l P (i + 1) v = (eg l (dg P v) v).1 + sm l P i (dg P v) := by
  induction i with
  | zero => simp [sm, it]
  | succ i ih =>
    show sm l P (i + 1) v + (eg l (it P (i + 2) v) (it P (i + 1) v)).1 = (eg l (dg P v) v).1 + (sm l P i (dg P v) + (eg l (it P (i + 1) (dg P v)) (it P i (dg P v))).1)
    rw [ih, it_one P (i + 1) v, it_one P i v]
    omega
theorem sm_rot (l : List E) (P : List Int) (m : Nat) (v : Int) (h : it P m v = v) (j : Nat) : it P m (it P j v) = it P j v ∧ sm l P m (it P j v) = sm l P m v := by
  induction j with
  | zero => exact ⟨h, rfl⟩
  | succ j ih =>
    obtain ⟨h1, h2⟩ := ih
    have a := sm_one l P m (it P j v)
    have b : sm l P (m + 1) (it P j v) = sm l P m (it P j v) + (eg l (it P (m + 1) (it P j v)) (it P m (it P j v))).1 := rfl
    have c : it P (m + 1) (it P j v) = dg P (it P j v) := by rw [it, h1]
    rw [c, h1] at b
    have e : it P (j + 1) v = dg P (it P j v) := rfl
    refine ⟨?_, by rw [e]; omega⟩
    rw [e, ← it_one, it, h1]
section
variable {n : Nat} {l : List E} {D P : List Int}
structure Pr (n : Nat) (l : List E) (D P : List Int) : Prop where
  dl : D.length = n
  pl : P.length = n
  lo : ∀ v : Int, 0 ≤ v → v < n → -1 ≤ dg P v ∧ dg P v < n
  link : ∀ v : Int, 0 ≤ v → v < n → 0 ≤ dg P v → dg D (dg P v) < far ∧ (eg l (dg P v) v).2 = true ∧ dg D (dg P v) + (eg l (dg P v) v).1 ≤ dg D v
  neg : ∀ (v : Int) (m : Nat), v < n → 0 < m → (∀ i, 0 ≤ it P i v) → it P m v = v → (∀ i, 0 < i → i < m → it P i v ≠ v) → sm l P m v < 0
theorem Pr.chain (h : Pr n l D P) (m : Nat) (v : Int) (v1 : v < n) (hv : ∀ i, i ≤ m → 0 ≤ it P i v) : it P m v < n ∧ dg D (it P m v) + sm l P m v ≤ dg D v := by
  induction m with
  | zero => exact ⟨v1, by simp [it, sm]⟩
  | succ m ih =>
    obtain ⟨h1, h2⟩ := ih fun i hi => hv i (by omega)
    have h0 := hv m (by omega)
    have h3 := hv (m + 1) (Nat.le_refl _)
    obtain ⟨_, _, a⟩ := h.link _ h0 h1 h3
    refine ⟨(h.lo _ h0 h1).2, ?_⟩
    rw [sm]
    have : it P (m + 1) v = dg P (it P m v) := rfl
    rw [this]
    omega
theorem eg_le {e : E} (he : e ∈ l) : (eg l e.1 e.2.1).2 = true ∧ (eg l e.1 e.2.1).1 ≤ e.2.2 := (eg_fold e.1 e.2.1 l (0, false)).2.1 e he rfl rfl
theorem eg_at {a b : Int} (h : (eg l a b).2 = true) : ∃ e ∈ l, e.1 = a ∧ e.2.1 = b ∧ e.2.2 = (eg l a b).1 := by
  rcases (eg_fold a b l (0, false)).2.2 with h1 | ⟨e, he, ha, hb, h1⟩
  · have : eg l a b = (0, false) := h1
    rw [this] at h; cases h
  · have : eg l a b = (e.2.2, true) := h1
    exact ⟨e, he, ha, hb, by rw [this]⟩
/-- one edge that gives way -/
theorem Pr.step {e : E} (h : Pr n l D P) (he : e ∈ l) (hr : 0 ≤ e.1 ∧ e.1 < n ∧ 0 ≤ e.2.1 ∧ e.2.1 < n) (h1 : dg D e.1 < far) (h2 : dg D e.1 + e.2.2 < dg D e.2.1) : Pr n l (D.set e.2.1.toNat (dg D e.1 + e.2.2)) (P.set e.2.1.toNat e.1) := by
  obtain ⟨u, x, c⟩ := e
  simp only at hr h1 h2 ⊢
  obtain ⟨u0, u1, x0, x1⟩ := hr
  have hD : ∀ v : Int, 0 ≤ v → dg (D.set x.toNat (dg D u + c)) v = if v = x then dg D u + c else dg D v := fun v v0 => dg_set x0 (by rw [h.dl]; exact x1) v0
  have hP : ∀ v : Int, 0 ≤ v → dg (P.set x.toNat u) v = if v = x then u else dg P v := fun v v0 => dg_set x0 (by rw [h.pl]; exact x1) v0
  obtain ⟨g1, g2⟩ := eg_le he
  simp only at g1 g2
  refine ⟨by rw [List.length_set]; exact h.dl, by rw [List.length_set]; exact h.pl, fun v v0 v1 => ?_, fun v v0 v1 hp => ?_, fun v m v1 hm hpos hcyc hmin => ?_⟩
  · rw [hP v v0]
    split
    · omega
    · exact h.lo v v0 v1
  · rw [hP v v0] at hp ⊢
    rw [hD v v0]
    by_cases hv : v = x
    · rw [if_pos hv] at hp ⊢
      rw [if_pos hv, hD u u0, hv]
      by_cases hu : u = x
      · rw [if_pos hu]
        subst hu
        exact ⟨by omega, g1, by omega⟩
      · rw [if_neg hu]
        exact ⟨h1, g1, by omega⟩
    · rw [if_neg hv] at hp ⊢
      rw [if_neg hv, hD _ hp]
      obtain ⟨a, b, d⟩ := h.link v v0 v1 hp
      refine ⟨?_, b, ?_⟩
      · split
        · rename_i e; rw [e] at a; omega
        · exact a
      · split
        · rename_i e; rw [e] at d; rw [e]; omega
        · exact d
  · by_cases hj : ∃ j, it (P.set x.toNat u) j v = x
    · obtain ⟨j, hj⟩ := hj
      obtain ⟨r1, r2⟩ := sm_rot l (P.set x.toNat u) m v hcyc j
      rw [hj] at r1 r2
      rw [← r2]
      obtain ⟨k, rfl⟩ : ∃ k, m = k + 1 := ⟨m - 1, by omega⟩
      have hx : dg (P.set x.toNat u) x = u := by rw [hP x x0, if_pos rfl]
      rw [sm_one, hx]
      rw [it_one, hx] at r1
      have hne : ∀ i, i < k → it (P.set x.toNat u) i u ≠ x := fun i hi e => by
        have e1 : it (P.set x.toNat u) (i + 1) x = x := by rw [it_one, hx]; exact e
        have e1' : it (P.set x.toNat u) (i + 1 + j) v = it (P.set x.toNat u) j v := by rw [it_add, hj]; exact e1
        refine hmin (i + 1) (by omega) (by omega) ?_
        obtain ⟨q, hq⟩ : ∃ q, j + q = (k + 1) * (j + 1) := ⟨(k + 1) * (j + 1) - j, by
          have : j + 1 ≤ (k + 1) * (j + 1) := Nat.le_mul_of_pos_left _ (by omega)
          omega⟩
        have hper : ∀ t, it (P.set x.toNat u) ((k + 1) * t) v = v := fun t => by
          induction t with
          | zero => rfl
          | succ t ih => rw [Nat.mul_succ, it_add, hcyc, ih]
        have e2 : it (P.set x.toNat u) (q + (i + 1 + j)) v = it (P.set x.toNat u) (q + j) v := by rw [it_add, e1', ← it_add]
        have e3 : q + (i + 1 + j) = (i + 1) + (k + 1) * (j + 1) := by omega
        have e4 : q + j = (k + 1) * (j + 1) := by omega
        rw [e3, e4, it_add, hper] at e2
        exact e2
      have heq : ∀ i, i ≤ k → it (P.set x.toNat u) i u = it P i u := fun i => by
        induction i with
        | zero => intro _; rfl
        | succ i ih =>
          intro hi
          have h3 := hne i (by omega)
          have h4 := hpos (i + 1 + j)
          rw [it_add, hj, it_one, hx] at h4
          rw [it, it, hP _ h4, if_neg h3, ih (by omega)]
      have hsm : ∀ i, i ≤ k → sm l (P.set x.toNat u) i u = sm l P i u := fun i => by
        induction i with
        | zero => intro _; rfl
        | succ i ih => intro hi; rw [sm, sm, ih (by omega), heq _ hi, heq _ (by omega)]
      have hc := h.chain k u u1 fun i hi => by
        have h4 := hpos (i + 1 + j)
        rw [it_add, hj, it_one, hx, heq i hi] at h4
        exact h4
      rw [← heq k (Nat.le_refl _), r1] at hc
      rw [hsm k (Nat.le_refl _)]
      omega
    · have hne : ∀ i, it (P.set x.toNat u) i v ≠ x := fun i e => hj ⟨i, e⟩
      have heq : ∀ i, it (P.set x.toNat u) i v = it P i v := fun i => by
        induction i with
        | zero => rfl
        | succ i ih => rw [it, it, hP _ (hpos i), if_neg (hne i), ih]
      have hsm : ∀ i, sm l (P.set x.toNat u) i v = sm l P i v := fun i => by
        induction i with
        | zero => rfl
        | succ i ih => rw [sm, sm, ih, heq, heq]
      rw [hsm]
      exact h.neg v m v1 hm (fun i => by rw [← heq]; exact hpos i) (by rw [← heq]; exact hcyc) fun i a b => by rw [← heq]; exact hmin i a b
def Still (D : List Int) (e : E) : Prop := ¬ (dg D e.1 < far ∧ dg D e.1 + e.2.2 < dg D e.2.1)
/-- in which round each gave way last -/
structure Rd (n : Nat) (l : List E) (D P : List Int) (R : Int → Nat) (K : Nat) (r : List E) : Prop where
  pr : Pr n l D P
  le : ∀ v, R v ≤ K
  rk : ∀ v : Int, 0 ≤ v → v < n → 1 ≤ R v → 0 ≤ dg P v ∧ R v ≤ R (dg P v) + 1
  old : ∀ e ∈ l, Still D e ∨ K ≤ R e.1 + 1
  new : ∀ e ∈ l, e ∈ r ∨ Still D e ∨ K ≤ R e.1
def Lst (n : Nat) (R : Int → Nat) (K : Nat) (x : Int) : Prop := x = -1 ∨ (0 ≤ x ∧ x < n ∧ R x = K)
theorem Rd.fold (hends : ∀ e ∈ l, 0 ≤ e.1 ∧ e.1 < n ∧ 0 ≤ e.2.1 ∧ e.2.1 < n) {K : Nat} (hK : 1 ≤ K) (r : List E) (hr : ∀ e ∈ r, e ∈ l) (s : St) (R : Int → Nat) (h : Rd n l s.1 s.2.1 R K r) (hl : Lst n R K s.2.2) :
    ∃ R', Rd n l (r.foldl rx s).1 (r.foldl rx s).2.1 R' K [] ∧ Lst n R' K (r.foldl rx s).2.2 := by
  induction r generalizing s R with
  | nil => exact ⟨R, h, hl⟩
  | cons e r ih =>
    rw [List.foldl_cons]
    have he : e ∈ l := hr e (by simp)
    have hr' : ∀ e ∈ r, e ∈ l := fun x hx => hr x (by simp [hx])
    by_cases hc : dg s.1 e.1 < far ∧ dg s.1 e.1 + e.2.2 < dg s.1 e.2.1
    · have hs : rx s e = (s.1.set e.2.1.toNat (dg s.1 e.1 + e.2.2), s.2.1.set e.2.1.toNat e.1, e.2.1) := by rw [rx, if_pos hc]
      rw [hs]
      obtain ⟨u0, u1, x0, x1⟩ := hends e he
      have hD : ∀ v : Int, 0 ≤ v → dg (s.1.set e.2.1.toNat (dg s.1 e.1 + e.2.2)) v = if v = e.2.1 then dg s.1 e.1 + e.2.2 else dg s.1 v := fun v v0 => dg_set x0 (by rw [h.pr.dl]; exact x1) v0
      have hP : ∀ v : Int, 0 ≤ v → dg (s.2.1.set e.2.1.toNat e.1) v = if v = e.2.1 then e.1 else dg s.2.1 v := fun v v0 => dg_set x0 (by rw [h.pr.pl]; exact x1) v0
      have hu : K ≤ R e.1 + 1 := by
        rcases h.old e he with h1 | h1
        · exact absurd hc h1
        · exact h1
      have hst : ∀ y ∈ l, y.1 ≠ e.2.1 → Still s.1 y → Still (s.1.set e.2.1.toNat (dg s.1 e.1 + e.2.2)) y := fun y hy h1 h2 => by
        obtain ⟨y0, y1, z0, z1⟩ := hends y hy
        unfold Still at h2 ⊢
        rw [hD _ y0, if_neg h1, hD _ z0]
        split
        · rename_i e'; rw [e'] at h2; omega
        · exact h2
      refine ih hr' _ (fun v => if v = e.2.1 then K else R v) ⟨h.pr.step he (hends e he) hc.1 hc.2, fun v => ?_, fun v v0 v1 hv => ?_, fun y hy => ?_, fun y hy => ?_⟩ (.inr ⟨x0, x1, by simp⟩)
      · show (if v = e.2.1 then K else R v) ≤ K
        split
        · exact Nat.le_refl _
        · exact h.le v
      · dsimp only at hv ⊢
        rw [hP v v0]
        by_cases hvx : v = e.2.1
        · rw [if_pos hvx, if_pos hvx]
          refine ⟨u0, ?_⟩
          split <;> omega
        · rw [if_neg hvx] at hv ⊢
          rw [if_neg hvx]
          obtain ⟨a, b⟩ := h.rk v v0 v1 hv
          refine ⟨a, ?_⟩
          split
          · have := h.le v; omega
          · exact b
      · dsimp only
        by_cases hyx : y.1 = e.2.1
        · rw [if_pos hyx]; right; omega
        · rw [if_neg hyx]
          rcases h.old y hy with h1 | h1
          · exact .inl (hst y hy hyx h1)
          · exact .inr h1
      · dsimp only
        by_cases hyx : y.1 = e.2.1
        · rw [if_pos hyx]; right; right; exact Nat.le_refl _
        · rw [if_neg hyx]
          rcases h.new y hy with h1 | h1 | h1
          · rcases List.mem_cons.1 h1 with h1 | h1
            · subst h1
              right; left
              unfold Still
              rw [hD _ u0, if_neg hyx, hD _ x0, if_pos rfl]
              omega
            · exact .inl h1
          · exact .inr (.inl (hst y hy hyx h1))
          · exact .inr (.inr h1)
    · have hs : rx s e = s := by rw [rx, if_neg hc]
      rw [hs]
      refine ih hr' s R ⟨h.pr, h.le, h.rk, h.old, fun y hy => ?_⟩ hl
      rcases h.new y hy with h1 | h1 | h1
      · rcases List.mem_cons.1 h1 with h1 | h1
        · subst h1; exact .inr (.inl hc)
        · exact .inl h1
      · exact .inr (.inl h1)
      · exact .inr (.inr h1)
theorem Rd.relax_ (hends : ∀ e ∈ l, 0 ≤ e.1 ∧ e.1 < n ∧ 0 ≤ e.2.1 ∧ e.2.1 < n) (k : Nat) : ∀ (K : Nat) (hK : 1 ≤ K) (s : St) (R : Int → Nat) (h : Rd n l s.1 s.2.1 R K l) (hl : 0 ≤ (relax l (k + 1) s).2.2),
    ∃ R', Rd n l (relax l (k + 1) s).1 (relax l (k + 1) s).2.1 R' (K + k) [] ∧ Lst n R' (K + k) (relax l (k + 1) s).2.2 := by
  induction k with
  | zero =>
    intro K hK s R h hl
    obtain ⟨R', h1, h2⟩ := Rd.fold hends hK l (fun _ h => h) (s.1, s.2.1, -1) R h (.inl rfl)
    have e : relax l 1 s = pass l s := by rw [relax]; split <;> rfl
    rw [e]
    exact ⟨R', h1, h2⟩
  | succ k ih =>
    intro K hK s R h hl
    obtain ⟨R', h1, h2⟩ := Rd.fold hends hK l (fun _ h => h) (s.1, s.2.1, -1) R h (.inl rfl)
    rw [relax] at hl ⊢
    split at hl
    · exact absurd hl (by omega)
    · rename_i hp
      rw [if_neg hp]
      have hold : ∀ e ∈ l, Still (pass l s).1 e ∨ K + 1 ≤ R' e.1 + 1 := fun e he => by
        rcases h1.new e he with h5 | h5 | h5
        · cases h5
        · exact .inl h5
        · exact .inr (by omega)
      obtain ⟨R2, h3, h4⟩ := ih (K + 1) (by omega) (pass l s) R' ⟨h1.pr, fun v => Nat.le_succ_of_le (h1.le v), h1.rk, hold, fun e he => .inl he⟩ hl
      have e : K + 1 + k = K + (k + 1) := by omega
      rw [e] at h3 h4
      exact ⟨R2, h3, h4⟩
theorem least (p : Nat → Prop) (m : Nat) (h : p m) : ∃ k, k ≤ m ∧ p k ∧ ∀ i, i < k → ¬ p i := by
  induction m using Nat.strongRecOn with
  | ind m ih =>
    by_cases hq : ∃ i, i < m ∧ p i
    · obtain ⟨i, hi, hp⟩ := hq
      obtain ⟨k, hk, h1, h2⟩ := ih i hi hp
      exact ⟨k, by omega, h1, h2⟩
    · exact ⟨m, Nat.le_refl _, h, fun i hi hp => hq ⟨i, hi, hp⟩⟩
/-- a round of places that costs less than 0 -/
structure Cyc (n : Nat) (l : List E) (P : List Int) (c : Int) (m : Nat) : Prop where
  pos : 0 < m
  le : m ≤ n
  rng : ∀ i, 0 ≤ it P i c ∧ it P i c < n
  back : it P m c = c
  first : ∀ i, 0 < i → i < m → it P i c ≠ c
  neg : sm l P m c < 0
  edge : ∀ i, (eg l (it P (i + 1) c) (it P i c)).2 = true
theorem pigeon (f : Nat → Int) (h : ∀ i, i ≤ n → 0 ≤ f i ∧ f i < n) : ∃ i j, i < j ∧ j ≤ n ∧ f i = f j := by
  refine Classical.byContradiction fun hno => ?_
  have hnd : ((List.range (n + 1)).map fun i => (f i).toNat).Nodup := by
    rw [List.Nodup, List.pairwise_map, List.pairwise_iff_getElem]
    intro i j hi hj hij e
    simp only [List.length_range] at hi hj
    simp only [List.getElem_range] at e
    have a := h i (by omega)
    have b := h j (by omega)
    exact hno ⟨i, j, hij, by omega, by omega⟩
  have := FloydLaw.nodup_len (k := n) hnd fun m hm => by
    rw [List.mem_map] at hm
    obtain ⟨i, hi, rfl⟩ := hm
    rw [List.mem_range] at hi
    have := h i (by omega)
    omega
  rw [List.length_map, List.length_range] at this
  omega
theorem cyc_at (hn : 1 ≤ n) (hends : ∀ e ∈ l, 0 ≤ e.1 ∧ e.1 < n ∧ 0 ≤ e.2.1 ∧ e.2.1 < n) (D : List Int) (x : Int) (hD : D.length = n) (hl : 0 ≤ (relax l n (D, List.replicate n (-1), x)).2.2) :
    ((relax l n (D, List.replicate n (-1), x)).2.2 < n ∧ ∀ i, 0 ≤ it (relax l n (D, List.replicate n (-1), x)).2.1 i (relax l n (D, List.replicate n (-1), x)).2.2 ∧ it (relax l n (D, List.replicate n (-1), x)).2.1 i (relax l n (D, List.replicate n (-1), x)).2.2 < n) ∧ ∃ m, Cyc n l (relax l n (D, List.replicate n (-1), x)).2.1 (it (relax l n (D, List.replicate n (-1), x)).2.1 n (relax l n (D, List.replicate n (-1), x)).2.2) m := by
  have hdg : ∀ v : Int, 0 ≤ v → v < n → dg (List.replicate n (-1)) v = -1 := fun v v0 v1 => by
    rw [dg, List.getD_eq_getElem?_getD, List.getElem?_replicate, if_pos (by omega)]
    rfl
  have h0 : Rd n l D (List.replicate n (-1)) (fun _ => 0) 1 l := by
    refine ⟨⟨hD, by simp, fun v v0 v1 => ?_, fun v v0 v1 hv => ?_, fun v m v1 hm hpos _ _ => ?_⟩, fun _ => by omega, fun _ _ _ h => absurd h (by omega), fun _ _ => .inr (by omega), fun _ h => .inl h⟩
    · rw [hdg v v0 v1]; omega
    · rw [hdg v v0 v1] at hv; omega
    · have h1 := hpos 0
      have h2 := hpos 1
      rw [it] at h1
      rw [it, it, hdg v h1 v1] at h2
      omega
  obtain ⟨k, rfl⟩ : ∃ k, n = k + 1 := ⟨n - 1, by omega⟩
  obtain ⟨R, hR, hL⟩ := Rd.relax_ hends k 1 (Nat.le_refl _) _ _ h0 hl
  generalize relax l (k + 1) (D, List.replicate (k + 1) (-1), x) = s at *
  obtain ⟨D1, P, v⟩ := s
  simp only at *
  rcases hL with hL | ⟨v0, v1, hRv⟩
  · omega
  have hch : ∀ i, i ≤ k + 1 → (0 ≤ it P i v ∧ it P i v < ((k + 1 : Nat) : Int)) ∧ 1 + k ≤ R (it P i v) + i := fun i => by
    induction i with
    | zero => intro _; exact ⟨⟨v0, v1⟩, by rw [it, hRv]; omega⟩
    | succ i ih =>
      intro hi
      obtain ⟨⟨a, b⟩, c⟩ := ih (by omega)
      obtain ⟨d, e⟩ := hR.rk _ a b (by omega)
      have := hR.pr.lo _ a b
      exact ⟨⟨d, this.2⟩, by rw [it]; omega⟩
  obtain ⟨i, j, hij, hj, he⟩ := pigeon (n := k + 1) (fun i => it P i v) fun i hi => (hch i hi).1
  obtain ⟨m, rfl⟩ : ∃ m, j = m + i := ⟨j - i, by omega⟩
  have hm : 0 < m := by omega
  have he : it P i v = it P m (it P i v) := by rw [← it_add]; exact he
  have hall : ∀ q, 0 ≤ it P q (it P i v) ∧ it P q (it P i v) < ((k + 1 : Nat) : Int) := fun q => by
    induction q using Nat.strongRecOn with
    | ind q ih =>
      rcases Nat.lt_or_ge q m with hq | hq
      · rw [← it_add]; exact (hch (q + i) (by omega)).1
      · have := ih (q - m) (by omega)
        obtain ⟨r, rfl⟩ : ∃ r, q = r + m := ⟨q - m, by omega⟩
        rw [it_add, ← he]
        rw [Nat.add_sub_cancel] at this
        exact this
  have hev : ∀ q, 0 ≤ it P q v ∧ it P q v < ((k + 1 : Nat) : Int) := fun q => by
    rcases Nat.lt_or_ge q i with hq | hq
    · exact (hch q (by omega)).1
    · obtain ⟨r, rfl⟩ : ∃ r, q = r + i := ⟨q - i, by omega⟩
      rw [it_add]; exact hall r
  refine ⟨⟨v1, hev⟩, ?_⟩
  have hc : it P (k + 1) v = it P (k + 1 - i) (it P i v) := by rw [← it_add]; congr 1; omega
  have hback : it P m (it P (k + 1) v) = it P (k + 1) v := by rw [hc]; exact (sm_rot l P m (it P i v) he.symm (k + 1 - i)).1
  obtain ⟨m0, h1, ⟨h2, h3⟩, h4⟩ := least (fun m => 0 < m ∧ it P m (it P (k + 1) v) = it P (k + 1) v) m ⟨hm, hback⟩
  have hrng : ∀ q, 0 ≤ it P q (it P (k + 1) v) ∧ it P q (it P (k + 1) v) < ((k + 1 : Nat) : Int) := fun q => by rw [← it_add]; exact hev _
  have hfst : ∀ q, 0 < q → q < m0 → it P q (it P (k + 1) v) ≠ it P (k + 1) v := fun q q0 q1 e => h4 q q1 ⟨q0, e⟩
  refine ⟨m0, h2, by omega, hrng, h3, hfst, hR.pr.neg _ m0 (hrng 0).2 h2 (fun q => (hrng q).1) h3 hfst, fun q => ?_⟩
  exact (hR.pr.link _ (hrng q).1 (hrng q).2 (hrng (q + 1)).1).2.1
/-- the round is a walk -/
theorem Cyc.wk {c : Int} {m : Nat} (h : Cyc n l P c m) : Wk l c c (sm l P m c) := by
  have key : ∀ i, i ≤ m → Wk l (it P m c) (it P (m - i) c) (sm l P m c - sm l P (m - i) c) := fun i => by
    induction i with
    | zero => intro _; rw [Nat.sub_zero, Int.sub_self]; exact Wk.here
    | succ i ih =>
      intro hi
      have h1 := ih (by omega)
      obtain ⟨j, hj⟩ : ∃ j, m - i = j + 1 := ⟨m - i - 1, by omega⟩
      have hj' : m - (i + 1) = j := by omega
      rw [hj] at h1
      rw [hj']
      obtain ⟨e, he, ha, hb, hc⟩ := eg_at (h.edge j)
      have h2 := Wk.step h1 he ha
      rw [hb, hc] at h2
      have e2 : sm l P m c - sm l P (j + 1) c + (eg l (it P (j + 1) c) (it P j c)).1 = sm l P m c - sm l P j c := by rw [sm]; omega
      rw [e2] at h2
      exact h2
  have h1 := key m (Nat.le_refl _)
  rw [Nat.sub_self, h.back] at h1
  simpa [sm, it] using h1
end
end Go.Proofs.Ytlcgkbkmfelcfaa.BellCyc
