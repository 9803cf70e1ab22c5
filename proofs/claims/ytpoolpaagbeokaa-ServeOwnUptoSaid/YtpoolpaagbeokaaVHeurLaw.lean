/- Plain facts on guesses that agree: no Go in sight. -/
import Derived.Test.YtpoolpaagbeokaaVDijkMoreLaw
namespace Go.Proofs.Ytpoolpaagbeokaa.HeurLaw
open NetLaw BellLaw DijkLaw
set_option linter.unusedSimpArgs false
set_option linter.unusedVariables false
/-- the first guess out of its bounds -/
def hrE : List Int → Int
  | [] => 0
  | x :: r => if x < 0 ∨ far < x then 1 else hrE r
/-- the first edge over which guesses do not agree -/
def heE (h : List Int) : List E → Int
  | [] => 0
  | e :: r => if e.2.2 + dg h e.2.1 < dg h e.1 then 7 else heE h r
/-- what Check answers; lk: what Look does -/
def hck (lk N to : Int) (l : List E) (h : List Int) : Int :=
  if lk ≠ 0 then lk else if (h.length : Int) ≠ N then 1 else if hrE h ≠ 0 then hrE h else if dg h to ≠ 0 then 7 else heE h l
/-- guesses that agree -/
structure Cons (N to : Int) (l : List E) (h : List Int) : Prop where
  len : (h.length : Int) = N
  lo : ∀ x ∈ h, 0 ≤ x ∧ x ≤ far
  zero : dg h to = 0
  edge : ∀ e ∈ l, dg h e.1 ≤ e.2.2 + dg h e.2.1
theorem hrE_drop (l : List Int) (k : Nat) (h : k < l.length) : hrE (l.drop k) = if l[k] < 0 ∨ far < l[k] then 1 else hrE (l.drop (k + 1)) := by rw [List.drop_eq_getElem_cons h]; rfl
theorem heE_drop (a : List Int) (l : List E) (k : Nat) (h : k < l.length) : heE a (l.drop k) = if l[k].2.2 + dg a l[k].2.1 < dg a l[k].1 then 7 else heE a (l.drop (k + 1)) := by rw [List.drop_eq_getElem_cons h]; rfl
theorem hrE_zero {l : List Int} : hrE l = 0 ↔ ∀ x ∈ l, 0 ≤ x ∧ x ≤ far := by
  induction l with
  | nil => simp [hrE]
  | cons x r ih =>
    unfold hrE
    by_cases h : x < 0 ∨ far < x
    · rw [if_pos h]
      constructor
      · intro h1; omega
      · intro h1; have := h1 x (List.mem_cons_self ..); omega
    · rw [if_neg h, ih]
      constructor
      · intro h1 y hy
        rcases List.mem_cons.1 hy with rfl | hy
        · omega
        · exact h1 y hy
      · intro h1 y hy; exact h1 y (List.mem_cons_of_mem _ hy)
theorem heE_zero {a : List Int} {l : List E} : heE a l = 0 ↔ ∀ e ∈ l, dg a e.1 ≤ e.2.2 + dg a e.2.1 := by
  induction l with
  | nil => simp [heE]
  | cons e r ih =>
    unfold heE
    by_cases h : e.2.2 + dg a e.2.1 < dg a e.1
    · rw [if_pos h]
      constructor
      · intro h1; omega
      · intro h1; have := h1 e (List.mem_cons_self ..); omega
    · rw [if_neg h, ih]
      constructor
      · intro h1 y hy
        rcases List.mem_cons.1 hy with rfl | hy
        · omega
        · exact h1 y hy
      · intro h1 y hy; exact h1 y (List.mem_cons_of_mem _ hy)
section
variable {lk N to : Int} {l : List E} {a b : List Int}
theorem hck_zero : hck lk N to l a = 0 ↔ lk = 0 ∧ Cons N to l a := by
  unfold hck
  constructor
  · intro h
    split at h
    · omega
    · split at h
      · omega
      · split at h
        · omega
        · split at h
          · omega
          · exact ⟨by omega, by omega, hrE_zero.1 (by omega), by omega, heE_zero.1 h⟩
  · rintro ⟨h1, h2⟩
    rw [if_neg (by omega), if_neg (by have := h2.len; omega), if_neg (by have := hrE_zero.2 h2.lo; omega), if_neg (by have := h2.zero; omega)]
    exact heE_zero.2 h2.edge
theorem dg_mem {a : List Int} {v : Int} (h0 : 0 ≤ v) (h1 : v < a.length) : dg a v ∈ a := by
  unfold dg
  rw [List.getD_eq_getElem?_getD, List.getElem?_eq_getElem (by omega), Option.getD_some]
  exact List.getElem_mem _
theorem Cons.bd (h : Cons N to l a) {v : Int} (h0 : 0 ≤ v) (h1 : v < N) : 0 ≤ dg a v ∧ dg a v ≤ far := h.lo _ (dg_mem h0 (by have := h.len; omega))
theorem Cons.wk (h : Cons N to l a) {v u d : Int} (hw : Wk l v u d) : dg a v ≤ d + dg a u := by
  induction hw with
  | here => omega
  | step hu he hf ih =>
    have := h.edge _ he
    subst hf
    omega
/-- what agrees is never more than it costs -/
theorem Cons.adm (h : Cons N to l a) {v : Int} {D : List Int} (hs : Sh N v l D) (t0 : 0 ≤ to) (t1 : to < N) (v0 : 0 ≤ v) (v1 : v < N) : dg a v ≤ dg D to := by
  by_cases hd : dg D to < far
  · have := h.wk (hs.wk to t0 t1 hd)
    rw [h.zero] at this
    omega
  · have := (h.bd v0 v1).2
    omega
/-- the greater of two guesses, of the first k places -/
def mx (a b : List Int) (k : Nat) : List Int := (List.range k).map fun v : Nat => max (dg a v) (dg b v)
theorem mx_len (a b : List Int) (k : Nat) : (mx a b k).length = k := by simp [mx]
theorem mx_snoc (a b : List Int) (k : Nat) : mx a b (k + 1) = mx a b k ++ [max (dg a k) (dg b k)] := by simp [mx, List.range_succ]
theorem dg_mx {a b : List Int} {k : Nat} {v : Int} (h0 : 0 ≤ v) (h1 : v < k) : dg (mx a b k) v = max (dg a v) (dg b v) := by
  obtain ⟨v, rfl⟩ := Int.eq_ofNat_of_zero_le h0
  conv => lhs; unfold dg
  rw [Int.toNat_natCast, List.getD_eq_getElem?_getD, List.getElem?_eq_getElem (by rw [mx_len]; omega), Option.getD_some]
  simp [mx]
theorem Cons.max {n : Nat} (ha : Cons n to l a) (hb : Cons n to l b) (t0 : 0 ≤ to) (t1 : to < n) (hends : ∀ e ∈ l, 0 ≤ e.1 ∧ e.1 < n ∧ 0 ≤ e.2.1 ∧ e.2.1 < n) : Cons n to l (mx a b n) := by
  refine ⟨by rw [mx_len], fun x hx => ?_, ?_, fun e he => ?_⟩
  · simp only [mx, List.mem_map, List.mem_range] at hx
    obtain ⟨v, hv, rfl⟩ := hx
    have := ha.bd (v := v) (by omega) (by omega)
    have := hb.bd (v := v) (by omega) (by omega)
    omega
  · rw [dg_mx t0 t1, ha.zero, hb.zero]; rfl
  · obtain ⟨f0, f1, g0, g1⟩ := hends e he
    rw [dg_mx f0 f1, dg_mx g0 g1]
    have := ha.edge e he
    have := hb.edge e he
    omega
end
end Go.Proofs.Ytpoolpaagbeokaa.HeurLaw
