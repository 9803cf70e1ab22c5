/- Plain facts on the order of knots, and on Kahn's order that takes the least first: no Go in sight. -/
import Derived.Test.YtjhnlkmdkjlkdaaDagLaw
import Derived.Test.YtjhnlkmdkjlkdaaCompLaw
namespace Go.Proofs.Ytjhnlkmdkjlkdaa.CompOrd
open NetLaw BellLaw DagLaw CompLaw
set_option linter.unusedSimpArgs false
set_option linter.unusedVariables false
/-- an order of the places R: each behind all that P puts ahead of it, the least first -/
structure Od (R : Int → Prop) (N : Nat) (P : Int → Int → Prop) (out : List Int) : Prop where
  rng : ∀ v ∈ out, (0 ≤ v ∧ v < N) ∧ R v
  nd : out.Nodup
  fwd : ∀ i (h : i < out.length), ∀ u, P u out[i] → u ∈ out.take i
  gr : ∀ i (h : i < out.length), ∀ v : Int, 0 ≤ v → v < N → R v → v ∉ out.take i → (∀ u, P u v → u ∈ out.take i) → out[i] ≤ v
  back : ∀ v : Int, 0 ≤ v → v < N → R v → v ∉ out → ∃ u, P u v ∧ u ∉ out
theorem mem_take_lt {out : List Int} (hn : out.Nodup) {i : Nat} (h : i < out.length) : out[i] ∉ out.take i := fun hm => by
  obtain ⟨j, hj, he⟩ := List.mem_take_iff_getElem.1 hm
  have hjl : j < out.length := by omega
  have := (List.pairwise_iff_getElem.1 hn) j i hjl h (by omega)
  exact this he
theorem Od.take {R R' : Int → Prop} {N : Nat} {P P' : Int → Int → Prop} {o o' : List Int} (h : Od R N P o) (h' : Od R' N P' o') (hR : ∀ v : Int, 0 ≤ v → v < N → (R v ↔ R' v)) (hP : ∀ u v, P u v ↔ P' u v) : ∀ i, i ≤ o.length → i ≤ o'.length → o.take i = o'.take i := by
  intro i
  induction i with
  | zero => intro _ _; rfl
  | succ i ih =>
    intro h1 h2
    have e := ih (by omega) (by omega)
    have hi : i < o.length := by omega
    have hi' : i < o'.length := by omega
    have a := h.rng _ (List.getElem_mem hi)
    have a' := h'.rng _ (List.getElem_mem hi')
    have g1 := h.gr i hi o'[i] a'.1.1 a'.1.2 ((hR _ a'.1.1 a'.1.2).2 a'.2) (by rw [e]; exact mem_take_lt h'.nd hi') (fun u hu => by rw [e]; exact h'.fwd i hi' u ((hP _ _).1 hu))
    have g2 := h'.gr i hi' o[i] a.1.1 a.1.2 ((hR _ a.1.1 a.1.2).1 a.2) (by rw [← e]; exact mem_take_lt h.nd hi) (fun u hu => by rw [← e]; exact h.fwd i hi u ((hP _ _).2 hu))
    rw [List.take_succ_eq_append_getElem hi, List.take_succ_eq_append_getElem hi', e, Int.le_antisymm g1 g2]
theorem Od.len {R R' : Int → Prop} {N : Nat} {P P' : Int → Int → Prop} {o o' : List Int} (h : Od R N P o) (h' : Od R' N P' o') (hR : ∀ v : Int, 0 ≤ v → v < N → (R v ↔ R' v)) (hP : ∀ u v, P u v ↔ P' u v) : o.length ≤ o'.length := by
  rcases Nat.lt_or_ge o'.length o.length with hlt | hge
  · exfalso
    have e := h.take h' hR hP o'.length (by omega) (Nat.le_refl _)
    rw [List.take_length] at e
    have a := h.rng _ (List.getElem_mem hlt)
    have hn := mem_take_lt h.nd hlt
    rw [e] at hn
    obtain ⟨u, hu, hn2⟩ := h'.back _ a.1.1 a.1.2 ((hR _ a.1.1 a.1.2).1 a.2) hn
    have := h.fwd _ hlt u ((hP _ _).2 hu)
    rw [e] at this
    exact hn2 this
  · exact hge
/-- there is but one such order -/
theorem Od.one {R R' : Int → Prop} {N : Nat} {P P' : Int → Int → Prop} {o o' : List Int} (h : Od R N P o) (h' : Od R' N P' o') (hR : ∀ v : Int, 0 ≤ v → v < N → (R v ↔ R' v)) (hP : ∀ u v, P u v ↔ P' u v) : o = o' := by
  have e1 := h.len h' hR hP
  have e2 := h'.len h (fun v a b => (hR v a b).symm) (fun u v => (hP u v).symm)
  have e := h.take h' hR hP o.length (Nat.le_refl _) e1
  rw [List.take_length, List.take_of_length_le e2] at e
  exact e
/-- without a cycle all come -/
theorem Od.all {R : Int → Prop} {N : Nat} {P : Int → Int → Prop} {o : List Int} (h : Od R N P o) (rk : Int → Nat) (hP : ∀ u v : Int, P u v → (0 ≤ u ∧ u < N ∧ R u) ∧ rk u < rk v) : ∀ v : Int, 0 ≤ v → v < N → R v → v ∈ o := by
  have key : ∀ k, ∀ v : Int, rk v < k → 0 ≤ v → v < N → R v → v ∈ o := by
    intro k
    induction k with
    | zero => intro v hv; omega
    | succ k ih =>
      intro v hv v0 v1 vR
      by_cases hm : v ∈ o
      · exact hm
      · obtain ⟨u, hu, hn⟩ := h.back v v0 v1 vR hm
        obtain ⟨⟨u0, u1, uR⟩, hr⟩ := hP u v hu
        exact absurd (ih u (by omega) u0 u1 uR) hn
  exact fun v => key (rk v + 1) v (Nat.lt_succ_self _)
/-- who comes ahead of whom -/
theorem Od.ahead {R : Int → Prop} {N : Nat} {P : Int → Int → Prop} {o : List Int} (h : Od R N P o) {u v : Int} (hp : P u v) (hv : v ∈ o) : o.idxOf u < o.idxOf v := by
  have hi := List.idxOf_lt_length_iff.2 hv
  have hg : o[o.idxOf v] = v := List.getElem_idxOf hi
  have hm := h.fwd _ hi u (by rw [hg]; exact hp)
  obtain ⟨j, hj, he⟩ := List.mem_take_iff_getElem.1 hm
  have : o.idxOf u ≤ j := by
    rw [← he]
    have hjl : j < o.length := by omega
    have : ∀ (o : List Int) (j : Nat) (h : j < o.length), o.idxOf o[j] ≤ j := by
      intro o
      induction o with
      | nil => intro j h; exact absurd h (Nat.not_lt_zero _)
      | cons a r ih =>
        intro j h
        cases j with
        | zero => simp
        | succ j =>
          rw [List.getElem_cons_succ, List.idxOf_cons]
          have := ih j (by simpa using h)
          cases hq : (a == r[j]'(by simpa using h)) with
          | true => simp
          | false => simp only [cond_false]; omega
    exact this o j hjl
  omega
/-- what holds all along: A how many edges lead to each from those who have not come, H who waits, out who has come, todo the edges still to be taken off; R: whom it is about -/
structure KG (R : Int → Prop) (N : Nat) (l : List E) (A H out : List Int) (todo : List E) : Prop where
  len : A.length = N
  cnt : ∀ v : Int, 0 ≤ v → v < N → dg A v = ((inn l out v + tdn todo v : Nat) : Int)
  zero : ∀ v : Int, 0 ≤ v → v < N → R v → (dg A v = 0 ↔ v ∈ H ∨ v ∈ out)
  hr : ∀ v ∈ H, (0 ≤ v ∧ v < N) ∧ R v
  or_ : ∀ v ∈ out, (0 ≤ v ∧ v < N) ∧ R v
  nd : (H ++ out).Nodup
  fwd : ∀ i (h : i < out.length), ∀ e ∈ l, e.2.1 = out[i] → e.1 ∈ out.take i
  gr : ∀ i (h : i < out.length), ∀ v : Int, 0 ≤ v → v < N → R v → v ∉ out.take i → (∀ e ∈ l, e.2.1 = v → e.1 ∈ out.take i) → out[i] ≤ v
section
variable {R : Int → Prop} {N : Nat} {l : List E} {A H H' out : List Int} {todo : List E}
theorem KG.start (hl : A.length = N) (hc : ∀ v : Int, 0 ≤ v → v < N → dg A v = ((tdn l v : Nat) : Int)) (hn : H.Nodup) (hm : ∀ v : Int, v ∈ H ↔ (0 ≤ v ∧ v < N) ∧ R v ∧ dg A v = 0) : KG R N l A H [] [] := by
  refine ⟨hl, fun v v0 v1 => ?_, fun v v0 v1 vR => ?_, fun v hv => ?_, (fun v hv => by cases hv), by simpa using hn, fun i h => absurd h (Nat.not_lt_zero _), fun i h => absurd h (Nat.not_lt_zero _)⟩
  · rw [hc v v0 v1, inn_nil]; rfl
  · rw [hm]; constructor
    · intro x; exact .inl ⟨⟨v0, v1⟩, vR, x⟩
    · rintro (x | x)
      · exact x.2.2
      · cases x
  · have := (hm v).1 hv; exact ⟨this.1, this.2.1⟩
theorem KG.take {v : Int} (h : KG R N l A H out []) (hp : (v :: H').Perm H) (hmin : ∀ u ∈ H', v ≤ u) : KG R N l A H' (out ++ [v]) (l.filter fun e => decide (e.1 = v)) ∧ ((0 ≤ v ∧ v < N) ∧ R v) := by
  have hv : v ∈ H := hp.mem_iff.1 (List.mem_cons_self ..)
  obtain ⟨⟨v0, v1⟩, vR⟩ := h.hr v hv
  have hnd : ((v :: H') ++ out).Nodup := (hp.append_right out).nodup_iff.2 h.nd
  rw [List.cons_append, List.nodup_cons] at hnd
  obtain ⟨hn1, hn2⟩ := hnd
  rw [List.mem_append, not_or] at hn1
  refine ⟨⟨h.len, fun u u0 u1 => ?_, fun u u0 u1 uR => ?_, fun u hu => h.hr u (hp.mem_iff.1 (List.mem_cons_of_mem _ hu)), fun u hu => ?_, ?_, fun i hi e he ht => ?_, fun i hi u u0 u1 uR hu1 hu2 => ?_⟩, ⟨v0, v1⟩, vR⟩
  · rw [h.cnt u u0 u1, inn_take l out v u hn1.2]; rfl
  · rw [h.zero u u0 u1 uR, ← hp.mem_iff, List.mem_cons, List.mem_append, List.mem_singleton]
    constructor
    · rintro ((h1 | h1) | h1)
      · exact .inr (.inr h1)
      · exact .inl h1
      · exact .inr (.inl h1)
    · rintro (h1 | h1 | h1)
      · exact .inl (.inr h1)
      · exact .inr h1
      · exact .inl (.inl h1)
  · rcases List.mem_append.1 hu with h1 | h1
    · exact h.or_ u h1
    · rw [List.mem_singleton] at h1; subst h1; exact ⟨⟨v0, v1⟩, vR⟩
  · rw [← List.append_assoc, List.nodup_append]
    refine ⟨hn2, by simp, fun a ha b hb e => ?_⟩
    rw [List.mem_singleton] at hb
    subst hb e
    rcases List.mem_append.1 ha with h1 | h1
    · exact hn1.1 h1
    · exact hn1.2 h1
  · rw [List.length_append, List.length_singleton] at hi
    by_cases hlt : i < out.length
    · rw [List.getElem_append_left hlt] at ht
      rw [List.take_append_of_le_length (by omega)]
      exact h.fwd i hlt e he ht
    · obtain rfl : i = out.length := by omega
      rw [List.getElem_append_right (Nat.le_refl _)] at ht
      simp at ht
      rw [List.take_append_of_le_length (Nat.le_refl _), List.take_length]
      have hz := (h.zero v v0 v1 vR).2 (.inl hv)
      rw [h.cnt v v0 v1] at hz
      have hz2 : inn l out v = 0 := by omega
      unfold inn at hz2
      rw [List.countP_eq_zero] at hz2
      have := hz2 e he
      simp only [decide_eq_true_eq, not_and, Decidable.not_not] at this
      exact this ht
  · rw [List.length_append, List.length_singleton] at hi
    by_cases hlt : i < out.length
    · rw [List.getElem_append_left hlt]
      rw [List.take_append_of_le_length (by omega)] at hu1 hu2
      exact h.gr i hlt u u0 u1 uR hu1 hu2
    · obtain rfl : i = out.length := by omega
      rw [List.getElem_append_right (Nat.le_refl _)]
      rw [List.take_append_of_le_length (Nat.le_refl _), List.take_length] at hu1 hu2
      simp only [Nat.sub_self, List.getElem_cons_zero]
      have hz : inn l out u = 0 := by
        unfold inn
        rw [List.countP_eq_zero]
        intro e he hd
        simp only [decide_eq_true_eq] at hd
        exact hd.2 (hu2 e he hd.1)
      have hz2 : dg A u = 0 := by
        rw [h.cnt u u0 u1, hz]; rfl
      rcases (h.zero u u0 u1 uR).1 hz2 with h1 | h1
      · rcases List.mem_cons.1 (hp.mem_iff.2 h1) with rfl | h2
        · exact Int.le_refl _
        · exact hmin u h2
      · exact absurd h1 hu1
theorem KG.dec {e : E} (h : KG R N l A H out (e :: todo)) (t0 : 0 ≤ e.2.1) (t1 : e.2.1 < N) (tR : R e.2.1) :
    1 ≤ dg A e.2.1 ∧ (dg A e.2.1 - 1 = 0 → ∀ H', H'.Perm (e.2.1 :: H) → KG R N l (A.set e.2.1.toNat (dg A e.2.1 - 1)) H' out todo) ∧ (dg A e.2.1 - 1 ≠ 0 → KG R N l (A.set e.2.1.toNat (dg A e.2.1 - 1)) H out todo) := by
  have hl := h.len
  have hs := fun v hv => dg_set (D := A) (t := e.2.1) (v := v) (x := dg A e.2.1 - 1) t0 (by omega) hv
  have hc := h.cnt e.2.1 t0 t1
  rw [tdn_cons, if_pos rfl] at hc
  have h1 : 1 ≤ dg A e.2.1 := by omega
  have hno : e.2.1 ∉ H ∧ e.2.1 ∉ out := by
    rw [← not_or]
    intro hm
    have := (h.zero _ t0 t1 tR).2 hm
    omega
  have hcnt : ∀ v : Int, 0 ≤ v → v < N → dg (A.set e.2.1.toNat (dg A e.2.1 - 1)) v = ((inn l out v + tdn todo v : Nat) : Int) := fun v v0 v1 => by
    rw [hs v v0]
    by_cases hv : v = e.2.1
    · subst hv; rw [if_pos rfl]; omega
    · rw [if_neg hv, h.cnt v v0 v1, tdn_cons, if_neg (fun x => hv x.symm)]; rfl
  refine ⟨h1, fun hz H' hp => ⟨by rw [List.length_set]; exact hl, hcnt, fun v v0 v1 vR => ?_, fun v hv => ?_, h.or_, ?_, h.fwd, h.gr⟩, fun hz => ⟨by rw [List.length_set]; exact hl, hcnt, fun v v0 v1 vR => ?_, h.hr, h.or_, h.nd, h.fwd, h.gr⟩⟩
  · rw [hs v v0, hp.mem_iff, List.mem_cons]
    by_cases hv : v = e.2.1
    · subst hv; rw [if_pos rfl]; simp [hz]
    · rw [if_neg hv, h.zero v v0 v1 vR]; simp [hv]
  · rcases List.mem_cons.1 (hp.mem_iff.1 hv) with rfl | hv
    · exact ⟨⟨t0, t1⟩, tR⟩
    · exact h.hr v hv
  · refine (hp.append_right out).nodup_iff.2 ?_
    rw [List.cons_append, List.nodup_cons, List.mem_append, not_or]
    exact ⟨hno, h.nd⟩
  · rw [hs v v0]
    by_cases hv : v = e.2.1
    · subst hv; rw [if_pos rfl]
      constructor
      · intro x; exact absurd x hz
      · rintro (x | x)
        · exact absurd x hno.1
        · exact absurd x hno.2
    · rw [if_neg hv]; exact h.zero v v0 v1 vR
theorem KG.len_le (h : KG R N l A H out todo) : H.length + out.length ≤ N := by
  have h1 : ((H ++ out).map Int.toNat).Nodup := by
    rw [List.Nodup, List.pairwise_map]
    refine List.Pairwise.imp_of_mem (fun {x y} hx hy hxy e => hxy ?_) h.nd
    have hx' : 0 ≤ x ∧ x < N := by rcases List.mem_append.1 hx with q | q; exact (h.hr x q).1; exact (h.or_ x q).1
    have hy' : 0 ≤ y ∧ y < N := by rcases List.mem_append.1 hy with q | q; exact (h.hr y q).1; exact (h.or_ y q).1
    omega
  have h3 := FloydLaw.nodup_len h1 (k := N) (fun m hm => by
    rw [List.mem_map] at hm
    obtain ⟨y, hy, rfl⟩ := hm
    have hy' : 0 ≤ y ∧ y < N := by rcases List.mem_append.1 hy with q | q; exact (h.hr y q).1; exact (h.or_ y q).1
    omega)
  simpa using h3
theorem KG.od (h : KG R N l A [] out []) : Od R N (fun u v => ∃ e ∈ l, e.1 = u ∧ e.2.1 = v) out := by
  refine ⟨h.or_, by simpa using h.nd, fun i hi u hu => ?_, fun i hi v v0 v1 vR h1 h2 => h.gr i hi v v0 v1 vR h1 fun e he ht => h2 _ ⟨e, he, rfl, ht⟩, fun v v0 v1 vR hv => ?_⟩
  · obtain ⟨e, he, rfl, ht⟩ := hu
    exact h.fwd i hi e he ht
  · have hz : dg A v ≠ 0 := fun hz => by
      rcases (h.zero v v0 v1 vR).1 hz with h1 | h1
      · cases h1
      · exact hv h1
    rw [h.cnt v v0 v1] at hz
    have h1 : 0 < inn l out v := by
      have : tdn [] v = 0 := rfl
      omega
    unfold inn at h1
    rw [List.countP_pos_iff] at h1
    obtain ⟨e, he, h2⟩ := h1
    rw [decide_eq_true_eq] at h2
    exact ⟨e.1, ⟨e, he, rfl, h2.1⟩, h2.2⟩
end
/-- the edges between knots; cm: whose knot -/
def cl (cm : Int → Int) (l : List E) : List E := (l.map fun e => (cm e.1, cm e.2.1, (0 : Int))).filter fun e => decide (e.1 ≠ e.2.1)
theorem cl_nil (cm : Int → Int) : cl cm [] = [] := rfl
theorem cl_cons (cm : Int → Int) (e : E) (r : List E) : cl cm (e :: r) = if cm e.1 ≠ cm e.2.1 then (cm e.1, cm e.2.1, 0) :: cl cm r else cl cm r := by
  unfold cl
  rw [List.map_cons, List.filter_cons]
  by_cases h : cm e.1 = cm e.2.1 <;> simp [h]
theorem cl_append (cm : Int → Int) (a b : List E) : cl cm (a ++ b) = cl cm a ++ cl cm b := by simp [cl]
theorem cl_len (cm : Int → Int) (l : List E) : (cl cm l).length ≤ l.length := by
  unfold cl
  refine Nat.le_trans (List.length_filter_le _ _) (by simp)
theorem cl_mem {cm : Int → Int} {l : List E} {u v : Int} : (∃ e ∈ cl cm l, e.1 = u ∧ e.2.1 = v) ↔ ∃ e ∈ l, cm e.1 = u ∧ cm e.2.1 = v ∧ u ≠ v := by
  unfold cl
  constructor
  · rintro ⟨e, he, rfl, rfl⟩
    obtain ⟨h1, h2⟩ := List.mem_filter.1 he
    obtain ⟨x, hx, rfl⟩ := List.mem_map.1 h1
    exact ⟨x, hx, rfl, rfl, by simpa using h2⟩
  · rintro ⟨e, he, rfl, rfl, hne⟩
    exact ⟨(cm e.1, cm e.2.1, 0), List.mem_filter.2 ⟨List.mem_map.2 ⟨e, he, rfl⟩, by simpa using hne⟩, rfl, rfl⟩
/-- the edges still to be taken off that leave c -/
def tk (cm : Int → Int) (c : Int) (l : List E) : List E := (cl cm l).filter fun e => decide (e.1 = c)
theorem tk_yes {cm : Int → Int} {c : Int} {e : E} {r : List E} (h1 : cm e.1 = c) (h2 : cm e.2.1 ≠ c) : tk cm c (e :: r) = (c, cm e.2.1, 0) :: tk cm c r := by
  subst h1
  unfold tk
  rw [cl_cons, if_pos (fun h => h2 h.symm), List.filter_cons]
  simp
theorem tk_no {cm : Int → Int} {c : Int} {e : E} {r : List E} (h : cm e.1 ≠ c ∨ cm e.2.1 = c) : tk cm c (e :: r) = tk cm c r := by
  unfold tk
  rw [cl_cons]
  by_cases h1 : cm e.1 = cm e.2.1
  · rw [if_neg (fun h => h h1)]
  · rw [if_pos h1, List.filter_cons]
    have : cm e.1 ≠ c := fun h3 => by
      rcases h with h | h
      · exact h h3
      · exact h1 (h3.trans h.symm)
    simp [this]
/-- how many lead to a place -/
noncomputable def rk (N : Nat) (l : List E) (v : Int) : Nat := by
  classical exact (List.range N).countP fun k : Nat => decide (Ld l (k : Int) v)
theorem rk_lt {N : Nat} {l : List E} {u v : Int} (h : Ld l u v) (h0 : 0 ≤ v) (h1 : v < N) (hn : ¬ Ld l v u) : rk N l u < rk N l v := by
  classical
  obtain ⟨k, rfl⟩ := Int.eq_ofNat_of_zero_le h0
  have := wh_lt (n := N) (f := fun x => if Ld l x u then 1 else 0) (f' := fun x => if Ld l x (k : Int) then 1 else 0) (v := k) (fun x hx => by
    by_cases hc : Ld l x u
    · simp [hc.trans h]
    · simp [hc] at hx) (by omega) (by simp [hn]) (by simp [Ld.here])
  have key : ∀ (N : Nat) (w : Int), rk N l w + CompLaw.wh N (fun x => if Ld l x w then 1 else 0) = N := by
    intro N w
    induction N with
    | zero => rfl
    | succ N ih =>
      unfold rk CompLaw.wh at ih ⊢
      rw [List.range_succ, List.countP_append, List.countP_append, List.countP_singleton, List.countP_singleton]
      by_cases hc : Ld l (N : Int) w
      · simp [hc] at ih ⊢
        omega
      · simp [hc] at ih ⊢
        omega
  have a := key N u
  have b := key N (k : Int)
  omega
section
variable {N : Nat} {l : List E} {cm : Int → Int} {o : List Int}
/-- the order of the knots: all of them -/
theorem od_all (hm : ∀ v : Int, 0 ≤ v → v < N → Lst l v (cm v)) (hr : ∀ v : Int, 0 ≤ v → v < N → 0 ≤ cm v ∧ cm v < N) (hends : ∀ e ∈ l, 0 ≤ e.1 ∧ e.1 < N ∧ 0 ≤ e.2.1 ∧ e.2.1 < N) (h : Od (fun v => cm v = v) N (fun u v => ∃ e ∈ cl cm l, e.1 = u ∧ e.2.1 = v) o) : ∀ v : Int, 0 ≤ v → v < N → cm v = v → v ∈ o := by
  refine h.all (rk N l) fun u v huv => ?_
  obtain ⟨e, he, rfl, rfl, hne⟩ := cl_mem.1 huv
  obtain ⟨e0, e1, e2, e3⟩ := hends e he
  have a := hm _ e0 e1
  have b := hm _ e2 e3
  have ra := hr _ e0 e1
  have rb := hr _ e2 e3
  have hab : Ld l (cm e.1) (cm e.2.1) := a.2.1.trans ((Ld.edge he).trans b.1)
  have hcc : cm (cm e.1) = cm e.1 := (hm _ ra.1 ra.2).uniq ⟨.here, .here, fun x h1 h2 => a.2.2 x (a.1.trans h1) (h2.trans a.2.1)⟩
  exact ⟨⟨ra.1, ra.2, hcc⟩, rk_lt hab rb.1 rb.2 fun hc => hne (Int.le_antisymm (a.2.2 _ (a.1.trans hab) (hc.trans a.2.1)) (b.2.2 _ (b.1.trans hc) (hab.trans b.2.1)))⟩
/-- an edge leads on, or stays -/
theorem od_edge (hr : ∀ v : Int, 0 ≤ v → v < N → 0 ≤ cm v ∧ cm v < N) (hcc : ∀ v : Int, 0 ≤ v → v < N → cm (cm v) = cm v) (hends : ∀ e ∈ l, 0 ≤ e.1 ∧ e.1 < N ∧ 0 ≤ e.2.1 ∧ e.2.1 < N) (h : Od (fun v => cm v = v) N (fun u v => ∃ e ∈ cl cm l, e.1 = u ∧ e.2.1 = v) o) (hall : ∀ v : Int, 0 ≤ v → v < N → cm v = v → v ∈ o) {e : E} (he : e ∈ l) : o.idxOf (cm e.1) ≤ o.idxOf (cm e.2.1) := by
  obtain ⟨e0, e1, e2, e3⟩ := hends e he
  have rb := hr _ e2 e3
  by_cases hne : cm e.1 = cm e.2.1
  · rw [hne]; exact Nat.le_refl _
  · exact Nat.le_of_lt (h.ahead (cl_mem.2 ⟨e, he, rfl, rfl, hne⟩) (hall _ rb.1 rb.2 (hcc _ e2 e3)))
/-- who leads to whom comes ahead of it -/
theorem od_lead (hr : ∀ v : Int, 0 ≤ v → v < N → 0 ≤ cm v ∧ cm v < N) (hcc : ∀ v : Int, 0 ≤ v → v < N → cm (cm v) = cm v) (hends : ∀ e ∈ l, 0 ≤ e.1 ∧ e.1 < N ∧ 0 ≤ e.2.1 ∧ e.2.1 < N) (h : Od (fun v => cm v = v) N (fun u v => ∃ e ∈ cl cm l, e.1 = u ∧ e.2.1 = v) o) (hall : ∀ v : Int, 0 ≤ v → v < N → cm v = v → v ∈ o) {a b : Int} (hab : Ld l a b) : o.idxOf (cm a) ≤ o.idxOf (cm b) := by
  induction hab with
  | here => exact Nat.le_refl _
  | @step u e _ he hu ih =>
    have := od_edge hr hcc hends h hall he
    rw [hu] at this
    omega
end
end Go.Proofs.Ytjhnlkmdkjlkdaa.CompOrd
