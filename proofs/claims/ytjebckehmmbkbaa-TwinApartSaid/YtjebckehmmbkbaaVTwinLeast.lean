/- Plain: two ways at the least cost cost no more than any other two walks that share no edge, gone on the cheapest edges. No Go in sight. -/
import Derived.Test.YtjebckehmmbkbaaVTwinPath
namespace Go.Proofs.Ytjebckehmmbkbaa.TwinLaw
open NetLaw BellLaw FlowLaw WalkLaw
set_option linter.unusedSimpArgs false
set_option linter.unusedVariables false
/-- over all pairs of places -/
def dsum (n : Nat) (F : Int → Int → Int) : Int := rsum n fun a => rsum n fun b => F a b
section
variable {n : Nat}
theorem dsum_add {F G H : Int → Int → Int} (h : ∀ a b, F a b = G a b + H a b) : dsum n F = dsum n G + dsum n H := rsum_add _ fun a _ => rsum_add _ fun b _ => h a b
theorem dsum_le {F G : Int → Int → Int} (h : ∀ a b : Nat, a < n → b < n → F a b ≤ G a b) : dsum n F ≤ dsum n G := rsum_le _ fun a ha => rsum_le _ fun b hb => h a b ha hb
theorem dsum_zero : dsum n (fun _ _ => 0) = 0 := rsum_zero _ fun _ _ => rsum_zero _ fun _ _ => rfl
theorem dsum_congr {F G : Int → Int → Int} (h : ∀ a b, F a b = G a b) : dsum n F = dsum n G := rsum_congr _ fun a _ => rsum_congr _ fun b _ => h a b
theorem rsum_pick {i : Int} (h0 : 0 ≤ i) (h1 : i < n) (z : Int) : rsum n (fun a => if i = a then z else 0) = z := by
  rw [rsum_upd (f := fun _ => 0) n i.toNat (by omega) fun j _ hj => by rw [if_neg (by omega)]]
  rw [rsum_zero n (fun _ _ => rfl), if_pos (by omega)]
  omega
theorem dsum_one {i j : Int} (h0 : 0 ≤ i) (h1 : i < n) (h2 : 0 ≤ j) (h3 : j < n) (z : Int) : dsum n (fun a b => if i = a ∧ j = b then z else 0) = z := by
  have e : dsum n (fun a b => if i = a ∧ j = b then z else 0) = rsum n (fun a => if i = a then z else 0) := rsum_congr _ fun a _ => by
    by_cases h : i = a
    · rw [if_pos h]
      have e2 : (rsum n fun b => if i = a ∧ j = b then z else 0) = rsum n (fun b => if j = b then z else 0) := rsum_congr _ fun b _ => by
        by_cases hb : j = b
        · rw [if_pos ⟨h, hb⟩, if_pos hb]
        · rw [if_neg (fun x => hb x.2), if_neg hb]
      exact e2.trans (rsum_pick h2 h3 z)
    · rw [if_neg h]
      exact rsum_zero _ fun b _ => if_neg (fun x => h x.1)
  rw [e, rsum_pick h0 h1]
/-- each thing once, under its pair of places -/
theorem dsum_list {α : Type} (key : α → Int × Int) (g : α → Int) (L : List α) (h : ∀ x ∈ L, 0 ≤ (key x).1 ∧ (key x).1 < n ∧ 0 ≤ (key x).2 ∧ (key x).2 < n) : dsum n (fun a b => ((L.filter fun x => key x = (a, b)).map g).sum) = (L.map g).sum := by
  induction L with
  | nil => exact dsum_zero
  | cons x r ih =>
    have hx := h x (by simp)
    rw [List.map_cons, List.sum_cons, ← ih (fun y hy => h y (List.mem_cons_of_mem _ hy)), ← dsum_one hx.1 hx.2.1 hx.2.2.1 hx.2.2.2 (g x)]
    refine dsum_add fun a b => ?_
    rw [List.filter_cons]
    by_cases hk : (key x).1 = a ∧ (key x).2 = b
    · rw [if_pos hk, if_pos (by simp [Prod.ext_iff, hk]), List.map_cons, List.sum_cons]
    · rw [if_neg hk, if_neg (by simpa [Prod.ext_iff] using hk), Int.zero_add]
end
theorem mins_nonpos (d : Int) : ∀ L : List Int, (L.map fun c => min (c - d) 0).sum ≤ 0 := by
  intro L
  induction L with
  | nil => exact Int.le_refl _
  | cons c r ih => rw [List.map_cons, List.sum_cons]; omega
/-- the first k of a list cost no less than what all save, and k times what one must cost -/
theorem cell_le (d : Int) : ∀ (L : List Int) (k : Nat), k ≤ L.length → (L.map fun c => min (c - d) 0).sum + k * d ≤ (L.take k).sum := by
  intro L
  induction L with
  | nil => intro k hk; have : k = 0 := by simpa using hk
           subst this; simp
  | cons c r ih =>
    intro k hk
    cases k with
    | zero =>
      have := mins_nonpos d (c :: r)
      simp only [List.take_zero, List.sum_nil]
      omega
    | succ k =>
      have h := ih k (by simpa using hk)
      rw [List.map_cons, List.sum_cons, List.take_succ_cons, List.sum_cons]
      have e : ((k + 1 : Nat) : Int) * d = k * d + d := by rw [show ((k + 1 : Nat) : Int) = (k : Int) + 1 by omega, Int.add_mul]; omega
      rw [e]
      omega
theorem perm_sum {f : Int → Int} {L L' : List Int} (h : L.Perm L') : (L.map f).sum = (L'.map f).sum := by
  induction h with
  | nil => rfl
  | cons x _ ih => rw [List.map_cons, List.map_cons, List.sum_cons, List.sum_cons, ih]
  | swap x y r => simp only [List.map_cons, List.sum_cons]; omega
  | trans _ _ ih1 ih2 => exact ih1.trans ih2
/-- what the edges from a to b cost, each -/
def cs (l : List E) (a b : Int) : List Int := (l.filter fun e => (e.1, e.2.1) = (a, b)).map (·.2.2)
theorem cs_len (l : List E) (a b : Int) : (cs l a b).length = cnE l a b := by
  unfold cs cnE
  rw [List.length_map]
  induction l with
  | nil => rfl
  | cons e r ih =>
    rw [List.filter_cons, List.map_cons, List.count_cons, ← ih]
    by_cases h : (e.1, e.2.1) = (a, b)
    · rw [if_pos (by simpa using h), if_pos (by simpa using h), List.length_cons]
    · rw [if_neg (by simpa using h), if_neg (by simpa using h)]; omega
theorem tele {π : Int → Int} (p : List Int) : ∀ x y, p.head? = some x → p.getLast? = some y → ((prs p).map fun q => π q.2 - π q.1).sum = π y - π x := by
  induction p with
  | nil => intro x y h; cases h
  | cons a r ih =>
    intro x y h h'
    simp at h
    subst h
    cases r with
    | nil =>
      simp at h'
      subst h'
      show (0 : Int) = _
      omega
    | cons b r =>
      rw [prs_cons, List.map_cons, List.sum_cons, ih b y rfl (by simpa using h')]
      simp only
      omega
theorem prs_mem {p : List Int} {q : Int × Int} (h : q ∈ prs p) : q.1 ∈ p ∧ q.2 ∈ p := by
  have := List.of_mem_zip h
  exact ⟨this.1, List.mem_of_mem_tail this.2⟩
theorem filter_count (z : Int × Int → Int) (q : Int × Int) (L : List (Int × Int)) : ((L.filter fun x => x = q).map z).sum = (L.count q : Int) * z q := by
  induction L with
  | nil => simp
  | cons x r ih =>
    rw [List.filter_cons, List.count_cons]
    by_cases h : x = q
    · subst h
      rw [if_pos (by simp), if_pos (by simp), List.map_cons, List.sum_cons, ih, show ((List.count x r + 1 : Nat) : Int) = (List.count x r : Int) + 1 by omega, Int.add_mul]
      omega
    · rw [if_neg (by simpa using h), if_neg (by simpa using h), ih, Nat.add_zero]
/-- what two walks that share no edge cost, gone on the cheapest edges: the first of the costs in order, as many as they go -/
def cell2 (M : List Int) (k : Nat) : Int := (M.take (min M.length k)).sum
/-- two walks from a place to another -/
structure Wlk (n : Nat) (s t : Int) (x : List Int) : Prop where
  head : x.head? = some s
  last : x.getLast? = some t
  rng : ∀ v ∈ x, 0 ≤ v ∧ v < n
theorem two_least {n : Nat} {l : List E} {u : List Bool} {s t : Int} {π : Int → Int} (hs : Slk l u π) (hu : BF l s t u 2) (hends : ∀ e ∈ l, 0 ≤ e.1 ∧ e.1 < n ∧ 0 ≤ e.2.1 ∧ e.2.1 < n) {x y : List Int} (hx : Wlk n s t x) (hy : Wlk n s t y) (hap : Apt l x y) (M : Int → Int → List Int) (hM : ∀ a b, (M a b).Perm (cs l a b)) :
    cst l u ≤ dsum n fun a b => cell2 (M a b) ((prs x ++ prs y).count (a, b)) := by
  have hcell : ∀ a b : Int, ((l.filter fun e => (e.1, e.2.1) = (a, b)).map fun e => min (e.2.2 - (π e.2.1 - π e.1)) 0).sum + (((prs x ++ prs y).filter fun q => q = (a, b)).map fun q => π q.2 - π q.1).sum ≤ cell2 (M a b) ((prs x ++ prs y).count (a, b)) := fun a b => by
    have hlen : (M a b).length = cnE l a b := by rw [(hM a b).length_eq, cs_len]
    have hk := hap a b
    have h1 := cell_le (π b - π a) (M a b) ((prs x ++ prs y).count (a, b)) (by omega)
    rw [perm_sum (hM a b)] at h1
    rw [filter_count]
    unfold cell2
    rw [Nat.min_eq_right (by omega)]
    have e : ((l.filter fun e => (e.1, e.2.1) = (a, b)).map fun e => min (e.2.2 - (π e.2.1 - π e.1)) 0) = (cs l a b).map fun c => min (c - (π b - π a)) 0 := by
      unfold cs
      rw [List.map_map]
      refine List.map_congr_left fun e he => ?_
      have h2 := (List.mem_filter.1 he).2
      simp only [Prod.mk.injEq, decide_eq_true_eq] at h2
      obtain ⟨rfl, rfl⟩ := h2
      rfl
    rw [e]
    exact h1
  refine Int.le_trans ?_ (dsum_le (F := fun a b => ((l.filter fun e => (e.1, e.2.1) = (a, b)).map fun e => min (e.2.2 - (π e.2.1 - π e.1)) 0).sum + (((prs x ++ prs y).filter fun q => q = (a, b)).map fun q => π q.2 - π q.1).sum) fun a b _ _ => hcell a b)
  rw [dsum_add (G := fun a b => ((l.filter fun e => (e.1, e.2.1) = (a, b)).map fun e => min (e.2.2 - (π e.2.1 - π e.1)) 0).sum) (H := fun a b => (((prs x ++ prs y).filter fun q => q = (a, b)).map fun q => π q.2 - π q.1).sum) fun _ _ => rfl]
  have d1 := dsum_list (n := n) (fun e : E => (e.1, e.2.1)) (fun e => min (e.2.2 - (π e.2.1 - π e.1)) 0) l hends
  have d2 := dsum_list (n := n) (fun q : Int × Int => q) (fun q => π q.2 - π q.1) (prs x ++ prs y) (fun q hq => by
    rcases List.mem_append.1 hq with hq | hq
    · obtain ⟨h1, h2⟩ := prs_mem hq
      exact ⟨(hx.rng _ h1).1, (hx.rng _ h1).2, (hx.rng _ h2).1, (hx.rng _ h2).2⟩
    · obtain ⟨h1, h2⟩ := prs_mem hq
      exact ⟨(hy.rng _ h1).1, (hy.rng _ h1).2, (hy.rng _ h2).1, (hy.rng _ h2).2⟩)
  rw [d1, d2, List.map_append, List.sum_append, tele x s t hx.head hx.last, tele y s t hy.head hy.last]
  have e1 := rsum_list (fun e => min (e.2.2 - (π e.2.1 - π e.1)) 0) l
  rw [← e1]
  have e2 : rsum l.length (fun i => (fun e : E => min (e.2.2 - (π e.2.1 - π e.1)) 0) (ed l i)) = rsum l.length (fun i => if ub u i = true then cpt l i + π (fr l i) - π (en l i) else 0) := rsum_congr _ fun i hi => by
    show min (cpt l i - (π (en l i) - π (fr l i))) 0 = _
    cases hb : ub u i with
    | true => have := hs.used hi hb; simp; omega
    | false => have := hs.free hi hb; simp; omega
  have e3 : rsum l.length (fun i => if ub u i = true then cpt l i + π (fr l i) - π (en l i) else 0) = cst l u + Wb l u π := rsum_add _ fun i _ => by
    split
    · omega
    · rfl
  rw [e2, e3, hu.cons]
  omega
end Go.Proofs.Ytjebckehmmbkbaa.TwinLaw
