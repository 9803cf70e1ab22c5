/- Plain facts on two ways that share no edge (Suurballe): no Go in sight. -/
import Derived.Test.YtjebckehmmbkbaaVFlowLaw
import Derived.Test.YtjebckehmmbkbaaVBellLaw
namespace Go.Proofs.Ytjebckehmmbkbaa.TwinLaw
open NetLaw BellLaw FlowLaw
open Go.Proofs.Ytjebckehmmbkbaa.Net (tl)
set_option linter.unusedSimpArgs false
set_option linter.unusedVariables false
/-- is an edge used? -/
def ub (u : List Bool) (i : Nat) : Bool := u.getD i false
theorem ub_set {u : List Bool} {k : Nat} (hk : k < u.length) (b : Bool) (i : Nat) : ub (u.set k b) i = if i = k then b else ub u i := by
  unfold ub
  rw [List.getD_eq_getElem?_getD, List.getD_eq_getElem?_getD, List.getElem?_set]
  by_cases e : k = i
  · subst e; simp [hk]
  · rw [if_neg e, if_neg (fun h => e h.symm)]
theorem ub_rep (m i : Nat) : ub (List.replicate m false) i = false := by
  unfold ub
  rw [List.getD_eq_getElem?_getD, List.getElem?_replicate]
  split <;> rfl
/-- an arc: a free edge, or a used one the other way -/
def af (l : List E) (u : List Bool) (i : Nat) : Int := if ub u i = true then en l i else fr l i
def at_ (l : List E) (u : List Bool) (i : Nat) : Int := if ub u i = true then fr l i else en l i
def ac (l : List E) (u : List Bool) (i : Nat) : Int := if ub u i = true then -cpt l i else cpt l i
/-- what flows, held against a height -/
def Wb (l : List E) (u : List Bool) (φ : Int → Int) : Int := rsum l.length fun i => if ub u i = true then φ (fr l i) - φ (en l i) else 0
def cst (l : List E) (u : List Bool) : Int := rsum l.length fun i => if ub u i = true then cpt l i else 0
/-- so many ways at once from s to t -/
structure BF (l : List E) (s t : Int) (u : List Bool) (v : Int) : Prop where
  len : u.length = l.length
  cons : ∀ φ : Int → Int, Wb l u φ = v * (φ s - φ t)
/-- heights that no arc outdoes -/
def Slk (l : List E) (u : List Bool) (π : Int → Int) : Prop := ∀ i, i < l.length → π (at_ l u i) ≤ π (af l u i) + ac l u i
theorem rsum_add {f g h : Nat → Int} (k : Nat) (e : ∀ i, i < k → f i = g i + h i) : rsum k f = rsum k g + rsum k h := by
  induction k with
  | zero => rfl
  | succ k ih => rw [rsum, rsum, rsum, ih fun i hi => e i (by omega), e k (by omega)]; omega
theorem rsum_zero {f : Nat → Int} (k : Nat) (e : ∀ i, i < k → f i = 0) : rsum k f = 0 := by
  induction k with
  | zero => rfl
  | succ k ih => rw [rsum, ih fun i hi => e i (by omega), e k (by omega)]; rfl
theorem rsum_pos {f : Nat → Int} (k : Nat) (h : 0 < rsum k f) : ∃ i, i < k ∧ 0 < f i := by
  induction k with
  | zero => exact absurd h (Int.lt_irrefl 0)
  | succ k ih =>
    rw [rsum] at h
    by_cases h1 : 0 < f k
    · exact ⟨k, by omega, h1⟩
    · obtain ⟨i, a, b⟩ := ih (by omega)
      exact ⟨i, by omega, b⟩
theorem rsum_nonneg {f : Nat → Int} (k : Nat) (h : ∀ i, i < k → 0 ≤ f i) : 0 ≤ rsum k f := by
  have := rsum_le (f := fun _ => 0) (g := f) k h
  rw [rsum_zero k (fun _ _ => rfl)] at this
  exact this
section
variable {l : List E} {u u' : List Bool} {s t v v' : Int} {π : Int → Int}
theorem Slk.used (h : Slk l u π) {i : Nat} (hi : i < l.length) (hu : ub u i = true) : cpt l i + π (fr l i) - π (en l i) ≤ 0 := by
  have := h i hi
  unfold at_ af ac at this
  rw [if_pos hu, if_pos hu, if_pos hu] at this
  omega
theorem Slk.free (h : Slk l u π) {i : Nat} (hi : i < l.length) (hu : ub u i = false) : 0 ≤ cpt l i + π (fr l i) - π (en l i) := by
  have := h i hi
  unfold at_ af ac at this
  rw [if_neg (by rw [hu]; decide), if_neg (by rw [hu]; decide), if_neg (by rw [hu]; decide)] at this
  omega
/-- such heights tell that it costs least -/
theorem Slk.least (h : Slk l u π) (hu : BF l s t u v) (hu' : BF l s t u' v) : cst l u ≤ cst l u' := by
  have key : ∀ w : List Bool, rsum l.length (fun i => if ub w i = true then cpt l i + π (fr l i) - π (en l i) else 0) = cst l w + Wb l w π := fun w => rsum_add _ fun i _ => by
    split
    · omega
    · rfl
  have hle := rsum_le (f := fun i => if ub u i = true then cpt l i + π (fr l i) - π (en l i) else 0) (g := fun i => if ub u' i = true then cpt l i + π (fr l i) - π (en l i) else 0) l.length fun i hi => by
    cases h1 : ub u i with
    | true =>
      have := h.used hi h1
      cases h2 : ub u' i with
      | true => simp
      | false => simp; omega
    | false =>
      have := h.free hi h1
      cases h2 : ub u' i with
      | true => simp; omega
      | false => simp
  rw [key, key, hu.cons, hu'.cons] at hle
  omega
theorem Slk.zero (hc : ∀ e ∈ l, 0 ≤ e.2.2) : Slk l (List.replicate l.length false) (fun _ => 0) := fun i hi => by
  unfold at_ af ac
  rw [ub_rep]
  have := hc _ (ed_mem hi)
  simp only [Bool.false_eq_true, if_false]
  unfold cpt
  omega
theorem BF.zero (l : List E) (s t : Int) : BF l s t (List.replicate l.length false) 0 := ⟨by simp, fun φ => by
  unfold Wb
  rw [rsum_zero _ fun i _ => by rw [ub_rep]; simp]
  omega⟩
/-- a side out of which no arc leads: no more can go -/
theorem cut_le (hu : BF l s t u v) (hu' : BF l s t u' v') {S : Int → Prop} (hs : S s) (ht : ¬ S t) (hcl : ∀ i, i < l.length → S (af l u i) → S (at_ l u i)) : v' ≤ v := by
  classical
  have e1 := hu.cons fun x => if S x then 1 else 0
  have e2 := hu'.cons fun x => if S x then 1 else 0
  simp only [if_pos hs, if_neg ht] at e1 e2
  have hle : Wb l u' (fun x => if S x then 1 else 0) ≤ Wb l u (fun x => if S x then 1 else 0) := rsum_le _ fun i hi => by
    have hc := hcl i hi
    unfold af at_ at hc
    by_cases a : S (fr l i)
    · by_cases b : S (en l i)
      · simp [a, b]
      · cases h1 : ub u i with
        | true => cases h2 : ub u' i <;> simp [a, b]
        | false =>
          rw [h1] at hc
          exact absurd (hc a) b
    · by_cases b : S (en l i)
      · cases h1 : ub u i with
        | true =>
          rw [h1] at hc
          exact absurd (hc b) a
        | false => cases h2 : ub u' i <;> simp [a, b]
      · simp [a, b]
  omega
/-- turned round -/
theorem BF.turn (h : BF l s t u v) : BF (tl l) t s u v := by
  refine ⟨by rw [tl_length]; exact h.len, fun φ => ?_⟩
  have : Wb (tl l) u φ = -Wb l u φ := by
    unfold Wb
    rw [tl_length]
    refine rsum_neg _ fun i hi => ?_
    obtain ⟨h1, h2, _⟩ := tl_ed l i hi
    rw [h1, h2]
    split
    · omega
    · rfl
  rw [this, h.cons]
  have : v * (φ t - φ s) = -(v * (φ s - φ t)) := by rw [← Int.mul_neg]; congr 1; omega
  omega
theorem cst_turn (l : List E) (u : List Bool) : cst (tl l) u = cst l u := by
  unfold cst
  rw [tl_length]
  exact rsum_congr _ fun i hi => by rw [(tl_ed l i hi).2.2]
/-- one edge turned over -/
theorem Wb_set {k : Nat} (hk : k < l.length) (hl : u.length = l.length) (φ : Int → Int) : Wb l (u.set k (!ub u k)) φ = Wb l u φ + (φ (af l u k) - φ (at_ l u k)) := by
  unfold Wb
  rw [rsum_upd (f := fun i => if ub u i = true then φ (fr l i) - φ (en l i) else 0) l.length k hk fun j _ hj => by rw [ub_set (by omega), if_neg hj]]
  rw [ub_set (by omega), if_pos rfl]
  unfold af at_
  cases ub u k <;> simp <;> omega
theorem af_ub {k : Nat} (h : ub u k = ub u' k) : af l u k = af l u' k ∧ at_ l u k = at_ l u' k := by
  unfold af at_
  rw [h]
  exact ⟨rfl, rfl⟩
/-- edges turned over, one after the other -/
def flips (u : List Bool) (ks : List Nat) : List Bool := ks.foldl (fun w k => w.set k (!ub w k)) u
theorem flips_len (ks : List Nat) (u : List Bool) : (flips u ks).length = u.length := by
  induction ks generalizing u with
  | nil => rfl
  | cons k r ih =>
    have e : flips u (k :: r) = flips (u.set k (!ub u k)) r := rfl
    rw [e, ih, List.length_set]
theorem flips_ub (ks : List Nat) (hn : ks.Nodup) (u : List Bool) (hk : ∀ k ∈ ks, k < u.length) (i : Nat) : ub (flips u ks) i = if i ∈ ks then !ub u i else ub u i := by
  induction ks generalizing u with
  | nil => simp [flips]
  | cons k r ih =>
    have e : flips u (k :: r) = flips (u.set k (!ub u k)) r := rfl
    obtain ⟨h1, h2⟩ := List.nodup_cons.1 hn
    rw [e, ih h2 _ (fun j hj => by rw [List.length_set]; exact hk j (List.mem_cons_of_mem _ hj)), ub_set (hk k (List.mem_cons_self ..))]
    by_cases hik : i = k
    · subst hik
      simp [h1]
    · simp [hik]
/-- back to s by the arcs that led on -/
inductive Chn (l : List E) (u : List Bool) (P : List Int) (s : Int) : Int → List Nat → Prop
  | root : Chn l u P s s []
  | link {v : Int} {k : Nat} {ks : List Nat} : v ≠ s → dg P v = k → k < l.length → at_ l u k = v → Chn l u P s (af l u k) ks → Chn l u P s v (k :: ks)
section
variable {P : List Int} {ks ks' : List Nat} {x : Int}
theorem Chn.uniq (h : Chn l u P s x ks) (h' : Chn l u P s x ks') : ks = ks' := by
  induction h generalizing ks' with
  | root =>
    cases h' with
    | root => rfl
    | link hne _ _ _ _ => exact absurd rfl hne
  | @link v k ks hne hk _ _ _ ih =>
    cases h' with
    | root => exact absurd rfl hne
    | @link _ k' ks2 _ hk' _ _ h2 =>
      rw [hk] at hk'
      obtain rfl : k = k' := by omega
      rw [ih h2]
theorem Chn.lt (h : Chn l u P s x ks) : ∀ k ∈ ks, k < l.length := by
  induction h with
  | root => intro k hk; cases hk
  | @link v k ks _ _ hl _ _ ih =>
    intro j hj
    rcases List.mem_cons.1 hj with rfl | hj
    · exact hl
    · exact ih j hj
theorem Chn.at_mem (h : Chn l u P s x ks) : ∀ k ∈ ks, ∃ ks2, Chn l u P s (at_ l u k) (k :: ks2) ∧ ks2.length < ks.length := by
  induction h with
  | root => intro k hk; cases hk
  | @link v k ks hne hk hl ha hc ih =>
    intro j hj
    rcases List.mem_cons.1 hj with rfl | hj
    · exact ⟨ks, by rw [ha]; exact .link hne hk hl ha hc, by simp⟩
    · obtain ⟨ks2, h1, h2⟩ := ih j hj
      exact ⟨ks2, h1, by simp; omega⟩
theorem Chn.nodup (h : Chn l u P s x ks) : ks.Nodup := by
  induction h with
  | root => exact List.nodup_nil
  | @link v k ks hne hk hl ha hc ih =>
    refine List.nodup_cons.2 ⟨fun hm => ?_, ih⟩
    obtain ⟨ks2, h1, h2⟩ := hc.at_mem k hm
    rw [ha] at h1
    have h3 := h1.uniq (.link hne hk hl ha hc)
    injection h3 with _ h3
    rw [h3] at h2
    exact Nat.lt_irrefl _ h2
/-- what turning over all of them adds -/
theorem Chn.push (h : Chn l u P s x ks) (φ : Int → Int) : ∀ w : List Bool, w.length = l.length → (∀ k ∈ ks, ub w k = ub u k) → Wb l (flips w ks) φ = Wb l w φ + (φ s - φ x) := by
  have hn := h.nodup
  induction h with
  | root => intro w _ _; show Wb l w φ = _; omega
  | @link v k ks hne hk hl ha hc ih =>
    intro w hw hag
    have e : flips w (k :: ks) = flips (w.set k (!ub w k)) ks := rfl
    obtain ⟨n1, n2⟩ := List.nodup_cons.1 hn
    have hk' := hag k (List.mem_cons_self ..)
    obtain ⟨e1, e2⟩ := af_ub (l := l) hk'
    rw [e, ih n2 _ (by rw [List.length_set]; exact hw) (fun j hj => by
      have hjk : j ≠ k := fun e => n1 (by rw [← e]; exact hj)
      rw [ub_set (by omega), if_neg hjk]
      exact hag j (List.mem_cons_of_mem _ hj)), Wb_set hl hw, e1, e2, ha]
    omega
theorem BF.push (hu : BF l s t u v) (h : Chn l u P s t ks) : BF l s t (flips u ks) (v + 1) := by
  refine ⟨by rw [flips_len]; exact hu.len, fun φ => ?_⟩
  rw [h.push φ u hu.len (fun _ _ => rfl), hu.cons, Int.add_mul]
  omega
end
end
end Go.Proofs.Ytjebckehmmbkbaa.TwinLaw
