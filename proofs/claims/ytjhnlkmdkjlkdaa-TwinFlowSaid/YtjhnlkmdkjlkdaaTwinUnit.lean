/- Plain facts on two ways at once and what goes through edges of which each bears one: no Go in sight. -/
import Derived.Test.YtjhnlkmdkjlkdaaTwinUse
import Derived.Test.YtjhnlkmdkjlkdaaFlowUse
namespace Go.Proofs.Ytjhnlkmdkjlkdaa.TwinLaw
open NetLaw BellLaw FlowLaw
open Go.Proofs.Ytjhnlkmdkjlkdaa.Twin (TF)
set_option linter.unusedSimpArgs false
set_option linter.unusedVariables false
/-- each edge bears one -/
def one1 (e : E) : E := (e.1, e.2.1, 1)
def ones (l : List E) : List E := l.map one1
theorem ones_len (l : List E) : (ones l).length = l.length := by simp [ones]
theorem ones_ed (l : List E) (i : Nat) (hi : i < l.length) : fr (ones l) i = fr l i ∧ en (ones l) i = en l i ∧ cpt (ones l) i = 1 := by
  have h : i < (ones l).length := by rw [ones_len]; exact hi
  unfold fr en cpt
  rw [ed_at h, ed_at hi]
  simp [ones, one1]
/-- the first k edges bear one -/
def onk (l : List E) (k : Nat) : List E := ones (l.take k) ++ l.drop k
theorem onk_len (l : List E) (k : Nat) : (onk l k).length = l.length := by simp [onk, ones]; omega
theorem onk_zero (l : List E) : onk l 0 = l := by simp [onk, ones]
theorem onk_all (l : List E) : onk l l.length = ones l := by simp [onk]
theorem onk_get (l : List E) (k : Nat) (hk : k < l.length) (hk' : k < (onk l k).length) : (onk l k)[k] = l[k] := by
  have e : (onk l k)[k]? = some l[k] := by
    unfold onk
    rw [List.getElem?_append_right (by simp [ones]; omega)]
    simp [ones, Nat.min_eq_left (Nat.le_of_lt hk), hk]
  exact Option.some.inj ((List.getElem?_eq_getElem hk').symm.trans e)
theorem onk_set (l : List E) (k : Nat) (hk : k < l.length) : (onk l k).set k (one1 l[k]) = onk l (k + 1) := by
  unfold onk
  have e : (ones (l.take k)).length = k := by simp [ones]; omega
  rw [List.set_append_right _ _ (by omega), e, Nat.sub_self, List.drop_eq_getElem_cons hk, List.set_cons_zero, List.take_succ_eq_append_getElem hk, ones, ones, List.map_append, List.append_assoc]
  rfl
section
variable {l : List E} {s t v : Int} {u : List Bool}
def cu (l : List E) (u : List Bool) : Int := rsum l.length fun i => if ub u i = true then 1 else 0
theorem cu_nonneg (l : List E) (u : List Bool) : 0 ≤ cu l u := rsum_nonneg _ fun i _ => by split <;> omega
theorem cu_off {i : Nat} (hi : i < l.length) (hl : u.length = l.length) (hb : ub u i = true) : cu l (u.set i false) = cu l u - 1 := by
  unfold cu
  rw [rsum_upd (f := fun i => if ub u i = true then (1 : Int) else 0) l.length i hi fun j _ hj => by rw [ub_set (by omega), if_neg hj]]
  rw [ub_set (by omega), if_pos rfl, hb]
  simp
  omega
/-- a walk taken off comes to its end -/
theorem Fol.ends (hv : 1 ≤ v) (u0 : List Bool) : ∀ (m : Nat) (u : List Bool) (at' co : Int), cu l u ≤ m → Fol l s t v u0 u at' co → ∃ u1, BF l s t u1 (v - 1) := by
  intro m
  induction m with
  | zero =>
    intro u a co hm h
    by_cases e : a = t
    · subst e; exact ⟨u, h.done⟩
    · obtain ⟨i, hi, hb, hf⟩ := h.next hv e
      have h1 := cu_off hi h.len hb
      have h2 := cu_nonneg l (u.set i false)
      omega
  | succ m ih =>
    intro u a co hm h
    by_cases e : a = t
    · subst e; exact ⟨u, h.done⟩
    · obtain ⟨i, hi, hb, hf⟩ := h.next hv e
      have h1 := cu_off hi h.len hb
      exact ih _ _ _ (by omega) (h.step hi hb hf)
theorem BF.down (h : BF l s t u v) (hv : 1 ≤ v) : ∃ u1, BF l s t u1 (v - 1) := Fol.ends hv u (cu l u).toNat u s 0 (by have := cu_nonneg l u; omega) (Fol.start h)
theorem BF.two : ∀ (m : Nat) (v : Int) (u : List Bool), v = 2 + m → BF l s t u v → ∃ u1, BF l s t u1 2 := by
  intro m
  induction m with
  | zero => intro v u hv h; obtain rfl : v = 2 := by omega
            exact ⟨u, h⟩
  | succ m ih =>
    intro v u hv h
    obtain ⟨u1, h1⟩ := h.down (by omega)
    exact ih _ _ (by omega) h1
theorem BF.fw (h : BF l s t u v) : Fw (ones l) s t (u.map fun b => if b = true then 1 else 0) v := by
  have hfv : ∀ i, fv (u.map fun b => if b = true then (1 : Int) else 0) i = if ub u i = true then 1 else 0 := fun i => by
    unfold fv ub
    rw [List.getD_eq_getElem?_getD, List.getD_eq_getElem?_getD, List.getElem?_map]
    cases u[i]? <;> simp
  refine ⟨by rw [List.length_map, ones_len]; exact h.len, fun i hi => ?_, fun φ => ?_⟩
  · rw [ones_len] at hi
    rw [hfv, (ones_ed l i hi).2.2]
    split <;> omega
  · rw [← h.cons]
    unfold FlowLaw.W Wb
    rw [ones_len]
    refine rsum_congr _ fun i hi => ?_
    obtain ⟨a, b, _⟩ := ones_ed l i hi
    rw [hfv, a, b]
    split <;> omega
theorem Fw.bf {F : List Int} (h : Fw (ones l) s t F v) : BF l s t (F.map fun x => decide (x = 1)) v := by
  have hub : ∀ i, ub (F.map fun x => decide (x = 1)) i = decide (fv F i = 1) := fun i => by
    unfold fv ub
    rw [List.getD_eq_getElem?_getD, List.getD_eq_getElem?_getD, List.getElem?_map]
    cases F[i]? <;> simp
  refine ⟨by rw [List.length_map, h.len, ones_len], fun φ => ?_⟩
  rw [← h.cons]
  unfold FlowLaw.W Wb
  rw [ones_len]
  refine rsum_congr _ fun i hi => ?_
  obtain ⟨a, b, c⟩ := ones_ed l i hi
  obtain ⟨d, e⟩ := h.cap i (by rw [ones_len]; exact hi)
  rw [c] at e
  rw [hub, a, b]
  by_cases hx : fv F i = 1
  · rw [hx]; simp
  · have : fv F i = 0 := by omega
    rw [this]; simp
/-- Menger -/
theorem unit_two (h : Mx (ones l) s t v) : 2 ≤ v ↔ ∃ u, BF l s t u 2 := by
  constructor
  · intro hv
    obtain ⟨F, hF⟩ := h.1
    exact BF.two (v - 2).toNat v _ (by omega) (Fw.bf hF)
  · rintro ⟨u, hu⟩
    exact h.le hu.fw
end
theorem chkE_ne (N : Int) (l : List E) : chkE N l ≠ 5 := by
  induction l with
  | nil => exact (by decide : (0 : Int) ≠ 5)
  | cons e r ih =>
    rw [chkE]
    split
    · decide
    · split
      · decide
      · exact ih
theorem lookE_ne (N : Int) (l : List Int) : Dijk.lookE N l ≠ 5 := by
  induction l with
  | nil => exact (by decide : (0 : Int) ≠ 5)
  | cons e r ih =>
    rw [Dijk.lookE]
    split
    · decide
    · exact ih
theorem chk_ne (N : Int) (l : List E) : chk N l ≠ 5 := by
  unfold chk
  split
  · decide
  · split
    · decide
    · exact chkE_ne N l
theorem pos_ne (N : Int) (l : List E) : Dijk.pos N l ≠ 5 := by
  unfold Dijk.pos
  split
  · exact chk_ne N l
  · rcases Flow.posE_val l with h | h <;> rw [h] <;> decide
theorem look_ne (N : Int) (l : List E) (ps : List Int) : Dijk.look N l ps ≠ 5 := by
  unfold Dijk.look
  split
  · exact pos_ne N l
  · exact lookE_ne N ps
/-- a fault -/
theorem tf_bad {N s t a b er : Int} {l : List E} (hn : ¬ (Dijk.look N l [s, t] = 0 ∧ s ≠ t)) (h : TF N l s t a b er) : er ≠ 0 ∧ er ≠ 5 := by
  by_cases hz : Dijk.look N l [s, t] = 0
  · by_cases hst : s = t
    · obtain ⟨e, _⟩ := h.2.1 hz hst
      rw [e]; decide
    · exact absurd ⟨hz, hst⟩ hn
  · obtain ⟨e, _⟩ := h.1 hz
    rw [e]; exact ⟨hz, look_ne N l [s, t]⟩
/-- none: a net and two of its places -/
theorem ones_err {N s t : Int} {l : List E} (hz : Dijk.look N l [s, t] = 0) (hst : s ≠ t) : NetLaw.Good N l ∧ Flow.ferr N (ones l) s t = 0 := by
  have hf : Flow.ferr N l s t = 0 := by
    unfold Flow.ferr
    rw [if_neg (by rw [hz]; exact fun h => h rfl), if_neg hst]
  obtain ⟨hg, hc, hs, ht, _⟩ := Flow.ferr_zero.1 hf
  have hm : ∀ e ∈ ones l, ∃ x ∈ l, e = one1 x := fun e he => by
    unfold ones at he; rw [List.mem_map] at he; obtain ⟨x, hx, rfl⟩ := he; exact ⟨x, hx, rfl⟩
  refine ⟨hg, Flow.ferr_zero.2 ⟨⟨hg.lo, hg.hi, by rw [ones_len]; exact hg.len, fun e he => ?_, fun e he => ?_⟩, fun e he => ?_, hs, ht, hst⟩⟩
  · obtain ⟨x, hx, rfl⟩ := hm e he; exact hg.ends x hx
  · obtain ⟨x, hx, rfl⟩ := hm e he; simp [one1]
  · obtain ⟨x, hx, rfl⟩ := hm e he; simp [one1]
theorem flow_law {N s t a b er v er' : Int} {l : List E} (hz : Dijk.look N l [s, t] = 0) (hst : s ≠ t) (h : TF N l s t a b er) (h' : Flow.MaxFact N s t (ones l) v er') : er' = 0 ∧ ((er = 0 ∧ 2 ≤ v) ∨ (er = 5 ∧ v < 2)) := by
  obtain ⟨_, hf⟩ := ones_err hz hst
  obtain ⟨e1, _, e3⟩ := h'
  have e4 := e1.trans hf
  have hM := unit_two (e3 e4)
  refine ⟨e4, ?_⟩
  rcases h.2.2 hz hst with ⟨no, e, _⟩ | ⟨e, h2⟩
  · refine .inr ⟨e, ?_⟩
    rcases Int.lt_or_le v 2 with hlt | hge
    · exact hlt
    · exact absurd (hM.1 hge) no
  · obtain ⟨u, hu, _⟩ := h2.is
    exact .inl ⟨e, hM.2 ⟨u, hu⟩⟩
end Go.Proofs.Ytjhnlkmdkjlkdaa.TwinLaw
