/- Plain facts on a plan that is mended (Koenig, Likhachev): no Go in sight. -/
/- Plain facts on a plan that is mended: what waits, and what is still to be mended. No Go in sight. -/
import Derived.Test.YtamphgcpfncenaaVWayLaw
import Derived.Test.YtamphgcpfncenaaVNetOuts
import Derived.Test.YtamphgcpfncenaaVTwinLaw
import Derived.Test.YtamphgcpfncenaaVHeapLaw
namespace Go.Proofs.Ytamphgcpfncenaa.LifeLaw
open NetLaw BellLaw FlowLaw
open Go.Proofs.Ytamphgcpfncenaa.Net (tl ol)
set_option linter.unusedSimpArgs false
set_option linter.unusedVariables false
/-- what a place looks like from the places ahead of it -/
def mnS (l : List E) (D : List Int) (b i : Int) : Int := min b (dg D (fr l i.toNat) + cpt l i.toNat)
def best (l : List E) (D : List Int) (js : List Int) : Int := js.foldl (mnS l D) far
theorem best_fold (l : List E) (D : List Int) (js : List Int) (b : Int) : js.foldl (mnS l D) b ≤ b ∧ (∀ j ∈ js, js.foldl (mnS l D) b ≤ dg D (fr l j.toNat) + cpt l j.toNat) ∧ (js.foldl (mnS l D) b = b ∨ ∃ j ∈ js, js.foldl (mnS l D) b = dg D (fr l j.toNat) + cpt l j.toNat) := by
  induction js generalizing b with
  | nil => exact ⟨Int.le_refl _, by simp, .inl rfl⟩
  | cons j r ih =>
    obtain ⟨h1, h2, h3⟩ := ih (mnS l D b j)
    rw [List.foldl_cons]
    have e : mnS l D b j = min b (dg D (fr l j.toNat) + cpt l j.toNat) := rfl
    refine ⟨by omega, fun x hx => ?_, ?_⟩
    · rcases List.mem_cons.1 hx with rfl | hx
      · omega
      · exact h2 x hx
    · rcases h3 with h | ⟨x, hx, h⟩
      · rcases Int.le_total b (dg D (fr l j.toNat) + cpt l j.toNat) with hb | hb
        · exact .inl (by rw [h]; omega)
        · exact .inr ⟨j, List.mem_cons_self .., by rw [h]; omega⟩
      · exact .inr ⟨x, List.mem_cons_of_mem _ hx, h⟩
def ins (l : List E) (v : Int) : List Int := ol (tl l) l.length v.toNat
def outs (l : List E) (v : Int) : List Int := ol l l.length v.toNat
theorem ol_mem (l : List E) (k v : Nat) (j : Int) : j ∈ ol l k v ↔ ∃ i, i < k ∧ j = (i : Int) ∧ fr l i = v := by
  unfold ol
  rw [List.mem_map]
  constructor
  · rintro ⟨i, hi, rfl⟩
    rw [List.mem_filter, List.mem_range, beq_iff_eq] at hi
    exact ⟨i, hi.1, rfl, hi.2⟩
  · rintro ⟨i, hi, rfl, he⟩
    exact ⟨i, by rw [List.mem_filter, List.mem_range, beq_iff_eq]; exact ⟨hi, he⟩, rfl⟩
theorem ins_mem {l : List E} {v j : Int} (v0 : 0 ≤ v) : j ∈ ins l v ↔ ∃ i, i < l.length ∧ j = (i : Int) ∧ en l i = v := by
  unfold ins
  rw [ol_mem]
  constructor
  · rintro ⟨i, hi, rfl, he⟩
    rw [(tl_ed l i hi).1] at he
    exact ⟨i, hi, rfl, by omega⟩
  · rintro ⟨i, hi, rfl, he⟩
    exact ⟨i, hi, rfl, by rw [(tl_ed l i hi).1]; omega⟩
theorem outs_mem {l : List E} {v j : Int} (v0 : 0 ≤ v) : j ∈ outs l v ↔ ∃ i, i < l.length ∧ j = (i : Int) ∧ fr l i = v := by
  unfold outs
  rw [ol_mem]
  constructor
  · rintro ⟨i, hi, rfl, he⟩; exact ⟨i, hi, rfl, by omega⟩
  · rintro ⟨i, hi, rfl, he⟩; exact ⟨i, hi, rfl, by omega⟩
def lkv (l : List E) (s : Int) (D : List Int) (v : Int) : Int := if v = s then 0 else best l D (ins l v)
/-- a right net, costs not below one, a place -/
structure Gd (n : Nat) (l : List E) (s : Int) : Prop where
  ends : ∀ i, i < l.length → (0 ≤ fr l i ∧ fr l i < n) ∧ 0 ≤ en l i ∧ en l i < n
  cost : ∀ i, i < l.length → 1 ≤ cpt l i ∧ cpt l i ≤ 10000
  s0 : 0 ≤ s
  s1 : s < n
  len : l.length ≤ 600
  n64 : n ≤ 64
structure Rg (n : Nat) (D : List Int) : Prop where
  len : D.length = n
  rg : ∀ v : Int, 0 ≤ v → v < n → 0 ≤ dg D v ∧ dg D v ≤ far
section
variable {n : Nat} {l : List E} {s v : Int} {D D' : List Int}
theorem lkv_s (l : List E) (s : Int) (D : List Int) : lkv l s D s = 0 := if_pos rfl
theorem lkv_far (l : List E) (s : Int) (D : List Int) (v : Int) : lkv l s D v ≤ far := by
  unfold lkv
  split
  · decide
  · exact (best_fold l D _ far).1
theorem lkv_le {i : Nat} (hi : i < l.length) (v0 : 0 ≤ v) (hv : v ≠ s) (he : en l i = v) : lkv l s D v ≤ dg D (fr l i) + cpt l i := by
  unfold lkv
  rw [if_neg hv]
  have := (best_fold l D (ins l v) far).2.1 (i : Int) ((ins_mem v0).2 ⟨i, hi, rfl, he⟩)
  rwa [Int.toNat_natCast] at this
theorem lkv_at (v0 : 0 ≤ v) (hv : v ≠ s) : lkv l s D v = far ∨ ∃ i, i < l.length ∧ en l i = v ∧ lkv l s D v = dg D (fr l i) + cpt l i := by
  unfold lkv
  rw [if_neg hv]
  rcases (best_fold l D (ins l v) far).2.2 with h | ⟨j, hj, h⟩
  · exact .inl h
  · obtain ⟨i, hi, rfl, he⟩ := (ins_mem v0).1 hj
    rw [Int.toNat_natCast] at h
    exact .inr ⟨i, hi, he, h⟩
theorem lkv_lo (hg : Gd n l s) (hr : Rg n D) (v0 : 0 ≤ v) : 0 ≤ lkv l s D v := by
  by_cases hv : v = s
  · rw [hv, lkv_s]; exact Int.le_refl _
  · rcases lkv_at (l := l) (D := D) v0 hv with h | ⟨i, hi, _, h⟩
    · rw [h]; decide
    · have a := hr.rg _ (hg.ends i hi).1.1 (hg.ends i hi).1.2
      have b := hg.cost i hi
      omega
/-- one cost fell: what each place looks like -/
theorem chg (hg : Gd n l s) (hne : ∀ u : Int, 0 ≤ u → u < n → u ≠ v → dg D' u = dg D u) (hle : dg D' v ≤ dg D v) {u : Int} (u0 : 0 ≤ u) (hu : u ≠ s) : lkv l s D' u ≤ lkv l s D u ∧ (lkv l s D' u = lkv l s D u ∨ dg D' v + 1 ≤ lkv l s D' u) := by
  have h1 : lkv l s D' u ≤ lkv l s D u := by
    rcases lkv_at (l := l) (D := D) u0 hu with h | ⟨i, hi, he, h⟩
    · rw [h]; exact lkv_far ..
    · have a := lkv_le (D := D') hi u0 hu he
      have b := (hg.ends i hi).1
      by_cases hv : fr l i = v
      · rw [hv] at a h; omega
      · rw [hne _ b.1 b.2 hv] at a; omega
  refine ⟨h1, ?_⟩
  rcases lkv_at (l := l) (D := D') u0 hu with h | ⟨i, hi, he, h⟩
  · have := lkv_far l s D u
    exact .inl (by omega)
  · have a := lkv_le (D := D) hi u0 hu he
    have b := (hg.ends i hi).1
    by_cases hv : fr l i = v
    · rw [hv] at h
      have := hg.cost i hi
      exact .inr (by omega)
    · rw [hne _ b.1 b.2 hv] at h
      exact .inl (by omega)
/-- what holds while it is settled -/
structure RI (n : Nat) (l : List E) (s : Int) (D : List Int) (K : Int) (O U : List Int) : Prop where
  a : ∀ u : Int, 0 ≤ u → u < n → dg D u ≠ lkv l s D u → K ≤ dg D u ∧ K ≤ lkv l s D u
  b : ∀ u ∈ O, (0 ≤ u ∧ u < n) ∧ dg D u = lkv l s D u ∧ dg D u ≤ K
  c : ∀ u ∈ U, (0 ≤ u ∧ u < n) ∧ (u ∉ O → dg D u = far)
  no : O.Nodup
  nu : U.Nodup
theorem nodupI {S : List Int} (h : S.Nodup) (hk : ∀ m ∈ S, 0 ≤ m ∧ m < n) : S.length ≤ n := by
  have := FloydLaw.nodup_len (S := S.map Int.toNat) (k := n) (by
    rw [List.Nodup, List.pairwise_map]
    refine List.Pairwise.imp_of_mem (fun ha hb hne e => ?_) h
    have a := hk _ ha
    have b := hk _ hb
    exact hne (by omega)) (fun m hm => by
    rw [List.mem_map] at hm
    obtain ⟨x, hx, rfl⟩ := hm
    have := hk x hx
    omega)
  rwa [List.length_map] at this
theorem RI.work {K : Int} {O U : List Int} (h : RI n l s D K O U) : O.length + U.length ≤ 2 * n := by
  have h1 := nodupI h.no fun m hm => (h.b m hm).1
  have h2 := nodupI h.nu fun m hm => (h.c m hm).1
  omega
theorem RI.start (hg : Gd n l s) (hr : Rg n D) : RI n l s D 0 [] [] :=
  ⟨fun u u0 u1 _ => ⟨(hr.rg u u0 u1).1, lkv_lo hg hr u0⟩, by simp, by simp, List.nodup_nil, List.nodup_nil⟩
theorem Rg.set (hr : Rg n D) {x : Int} (v0 : 0 ≤ v) (v1 : v < n) (hx : 0 ≤ x ∧ x ≤ far) : Rg n (D.set v.toNat x) := by
  refine ⟨by rw [List.length_set]; exact hr.len, fun u u0 u1 => ?_⟩
  rw [dg_set v0 (by rw [hr.len]; exact v1) u0]
  split
  · exact hx
  · exact hr.rg u u0 u1
/-- it cost too much: it costs what it looks like -/
theorem RI.over {K k : Int} {O U : List Int} (h : RI n l s D K O U) (hg : Gd n l s) (hr : Rg n D) (v0 : 0 ≤ v) (v1 : v < n) (hk : lkv l s D v = k) (hgt : k < dg D v) (hmin : ∀ u : Int, 0 ≤ u → u < n → dg D u ≠ lkv l s D u → k ≤ dg D u ∧ k ≤ lkv l s D u) :
    RI n l s (D.set v.toNat k) k (v :: O) U := by
  have hd : ∀ u : Int, 0 ≤ u → dg (D.set v.toNat k) u = if u = v then k else dg D u := fun u u0 => dg_set v0 (by rw [hr.len]; exact v1) u0
  have hKk : K ≤ k := by have := (h.a v v0 v1 (by omega)).2; omega
  have hvO : v ∉ O := fun hm => by have := (h.b v hm).2.1; omega
  have hch : ∀ u : Int, 0 ≤ u → u ≠ s → lkv l s (D.set v.toNat k) u ≤ lkv l s D u ∧ (lkv l s (D.set v.toNat k) u = lkv l s D u ∨ k + 1 ≤ lkv l s (D.set v.toNat k) u) := fun u u0 hu => by
    have := chg (v := v) (D := D) (D' := D.set v.toNat k) hg (fun u u0 _ hne => by rw [hd u u0, if_neg hne]) (by rw [hd v v0, if_pos rfl]; omega) u0 hu
    rwa [hd v v0, if_pos rfl] at this
  have hls : ∀ D, lkv l s D s = 0 := lkv_s l s
  have hvv : lkv l s (D.set v.toNat k) v = k := by
    by_cases hvs : v = s
    · subst hvs; rw [hls] at hk ⊢; exact hk
    · have := hch v v0 hvs; omega
  refine ⟨fun u u0 u1 hu => ?_, fun u hu => ?_, fun u hu => ?_, List.nodup_cons.2 ⟨hvO, h.no⟩, h.nu⟩
  · rw [hd u u0] at hu ⊢
    by_cases huv : u = v
    · subst huv
      rw [if_pos rfl, hvv] at hu
      exact absurd rfl hu
    · rw [if_neg huv] at hu ⊢
      by_cases hus : u = s
      · subst hus
        have := hmin u u0 u1
        rw [hls] at hu ⊢
        rw [hls] at this
        exact this hu
      · obtain ⟨c1, c2⟩ := hch u u0 hus
        have := hmin u u0 u1
        by_cases hc : dg D u = lkv l s D u
        · omega
        · have := this hc
          omega
  · rcases List.mem_cons.1 hu with rfl | hu
    · exact ⟨⟨v0, v1⟩, by rw [hd u v0, if_pos rfl, hvv], by rw [hd u v0, if_pos rfl]; exact Int.le_refl _⟩
    · obtain ⟨⟨u0, u1⟩, e1, e2⟩ := h.b u hu
      have huv : u ≠ v := fun e => hvO (by rw [← e]; exact hu)
      refine ⟨⟨u0, u1⟩, ?_, ?_⟩
      · rw [hd u u0, if_neg huv]
        by_cases hus : u = s
        · subst hus; rw [hls]; rw [hls] at e1; exact e1
        · have := hch u u0 hus; omega
      · rw [hd u u0, if_neg huv]; omega
  · obtain ⟨⟨u0, u1⟩, e1⟩ := h.c u hu
    refine ⟨⟨u0, u1⟩, fun hm => ?_⟩
    rw [List.mem_cons, not_or] at hm
    rw [hd u u0, if_neg hm.1]
    exact e1 hm.2
/-- it cost too little: it is far, until it is mended -/
theorem RI.under {K k : Int} {O U : List Int} (h : RI n l s D K O U) (hg : Gd n l s) (hr : Rg n D) (v0 : 0 ≤ v) (v1 : v < n) (hk : dg D v = k) (hlt : k < lkv l s D v) (hmin : ∀ u : Int, 0 ≤ u → u < n → dg D u ≠ lkv l s D u → k ≤ dg D u ∧ k ≤ lkv l s D u) :
    RI n l s (D.set v.toNat far) k O (v :: U) := by
  have hd : ∀ u : Int, 0 ≤ u → dg (D.set v.toNat far) u = if u = v then far else dg D u := fun u u0 => dg_set v0 (by rw [hr.len]; exact v1) u0
  have hKk : K ≤ k := by have := (h.a v v0 v1 (by omega)).1; omega
  have hkf : k < far := by have := lkv_far l s D v; omega
  have hvO : v ∉ O := fun hm => by have := (h.b v hm).2.1; omega
  have hvU : v ∉ U := fun hm => by have := (h.c v hm).2 hvO; omega
  have hls : ∀ D, lkv l s D s = 0 := lkv_s l s
  have hk0 : 0 ≤ k := by rw [← hk]; exact (hr.rg v v0 v1).1
  have hvs : v ≠ s := fun e => by subst e; rw [hls] at hlt; omega
  have hch : ∀ u : Int, 0 ≤ u → u ≠ s → lkv l s D u ≤ lkv l s (D.set v.toNat far) u ∧ (lkv l s D u = lkv l s (D.set v.toNat far) u ∨ k + 1 ≤ lkv l s D u) := fun u u0 hu => by
    have := chg (v := v) (D := D.set v.toNat far) (D' := D) hg (fun u u0 _ hne => by rw [hd u u0, if_neg hne]) (by rw [hd v v0, if_pos rfl]; omega) u0 hu
    rwa [hk] at this
  refine ⟨fun u u0 u1 hu => ?_, fun u hu => ?_, fun u hu => ?_, h.no, List.nodup_cons.2 ⟨hvU, h.nu⟩⟩
  · rw [hd u u0] at hu ⊢
    by_cases huv : u = v
    · subst huv
      rw [if_pos rfl]
      have := hch u u0 hvs
      omega
    · rw [if_neg huv] at hu ⊢
      by_cases hus : u = s
      · subst hus
        have := hmin u u0 u1
        rw [hls] at hu ⊢
        rw [hls] at this
        exact this hu
      · obtain ⟨c1, c2⟩ := hch u u0 hus
        have := hmin u u0 u1
        by_cases hc : dg D u = lkv l s D u
        · omega
        · have := this hc
          omega
  · obtain ⟨⟨u0, u1⟩, e1, e2⟩ := h.b u hu
    have huv : u ≠ v := fun e => hvO (by rw [← e]; exact hu)
    refine ⟨⟨u0, u1⟩, ?_, ?_⟩
    · rw [hd u u0, if_neg huv]
      by_cases hus : u = s
      · subst hus; rw [hls]; rw [hls] at e1; exact e1
      · have := hch u u0 hus; omega
    · rw [hd u u0, if_neg huv]; omega
  · rcases List.mem_cons.1 hu with rfl | hu
    · exact ⟨⟨v0, v1⟩, fun _ => by rw [hd u v0, if_pos rfl]⟩
    · obtain ⟨⟨u0, u1⟩, e1⟩ := h.c u hu
      refine ⟨⟨u0, u1⟩, fun hm => ?_⟩
      rw [hd u u0]
      split
      · rfl
      · exact e1 hm
/-- where it stops -/
structure Fx (n : Nat) (l : List E) (s t : Int) (D : List Int) : Prop where
  at_ : dg D t = lkv l s D t
  rest : ∀ u : Int, 0 ≤ u → u < n → dg D u ≠ lkv l s D u → dg D t ≤ dg D u ∧ dg D t ≤ lkv l s D u
/-- the least that a walk costs -/
structure Bst (l : List E) (s t d : Int) : Prop where
  hi : d ≤ far
  is : d < far → Wk l s t d
  least : ∀ x, Wk l s t x → d ≤ x
theorem Bst.unique {t d d' : Int} (h : Bst l s t d) (h' : Bst l s t d') : d = d' := by
  have a : d' ≤ d := by
    rcases Int.lt_or_le d far with e | e
    · exact h'.least _ (h.is e)
    · have := h'.hi; omega
  have b : d ≤ d' := by
    rcases Int.lt_or_le d' far with e | e
    · exact h.least _ (h'.is e)
    · have := h.hi; omega
  omega
theorem ed_get {i : Nat} : ed l i = (fr l i, en l i, cpt l i) := rfl
/-- from where it is come to -/
theorem Fx.back {t : Int} (h : Fx n l s t D) (hg : Gd n l s) (hr : Rg n D) (v0 : 0 ≤ v) (v1 : v < n) (hvs : v ≠ s) (hf : dg D v < far) (hle : dg D v ≤ dg D t) (hc : dg D v = lkv l s D v) : ∃ i, i < l.length ∧ en l i = v ∧ dg D (fr l i) + cpt l i = dg D v := by
  rcases lkv_at (l := l) (D := D) v0 hvs with e | ⟨i, hi, he, e⟩
  · omega
  · exact ⟨i, hi, he, by omega⟩
theorem Fx.prev {t : Int} (h : Fx n l s t D) (hg : Gd n l s) (hr : Rg n D) (hle : dg D v ≤ dg D t) {i : Nat} (hi : i < l.length) (he : dg D (fr l i) + cpt l i = dg D v) : dg D (fr l i) < dg D v ∧ dg D (fr l i) = lkv l s D (fr l i) := by
  have a := hg.cost i hi
  have b := (hg.ends i hi).1
  refine ⟨by omega, Classical.byContradiction fun hc => ?_⟩
  have := h.rest _ b.1 b.2 hc
  omega
theorem Fx.sound {t : Int} (h : Fx n l s t D) (hg : Gd n l s) (hr : Rg n D) : ∀ (m : Nat) (v : Int), (dg D v).toNat = m → 0 ≤ v → v < n → dg D v < far → dg D v ≤ dg D t → dg D v = lkv l s D v → Wk l s v (dg D v) := by
  intro m
  induction m using Nat.strongRecOn with
  | ind m ih =>
    intro v hm v0 v1 hf hle hc
    by_cases hvs : v = s
    · subst hvs
      rw [lkv_s] at hc
      rw [hc]
      exact Wk.here
    · obtain ⟨i, hi, he, e⟩ := h.back hg hr v0 v1 hvs hf hle hc
      obtain ⟨p1, p2⟩ := h.prev hg hr hle hi e
      have b := (hg.ends i hi).1
      have lo := hr.rg _ b.1 b.2
      have := ih _ (by omega) (fr l i) rfl b.1 b.2 (by omega) (by omega) p2
      have hw := Wk.step (e := ed l i) this (ed_mem hi) rfl
      rw [← e, ← he]
      exact hw
theorem wk_lo (hg : Gd n l s) {x : Int} (h : Wk l s v x) : (0 ≤ v ∧ v < n) ∧ 0 ≤ x := by
  induction h with
  | here => exact ⟨⟨hg.s0, hg.s1⟩, Int.le_refl _⟩
  | @step u d e _ he hu ih =>
    obtain ⟨i, hi, rfl⟩ := List.mem_iff_getElem.1 he
    rw [← ed_at hi]
    have a := hg.cost i hi
    have b := (hg.ends i hi).2
    exact ⟨b, by have : (ed l i).2.2 = cpt l i := rfl; omega⟩
theorem Fx.least {t : Int} (h : Fx n l s t D) (hg : Gd n l s) {x : Int} (hw : Wk l s v x) : x < dg D t → dg D v = lkv l s D v ∧ dg D v ≤ x := by
  induction hw with
  | here =>
    intro hx
    have : dg D s = lkv l s D s := Classical.byContradiction fun hc => by
      have := (h.rest s hg.s0 hg.s1 hc).2
      rw [lkv_s] at this
      omega
    exact ⟨this, by rw [this, lkv_s]; exact Int.le_refl _⟩
  | @step u d e hw he hu ih =>
    intro hx
    obtain ⟨i, hi, rfl⟩ := List.mem_iff_getElem.1 he
    rw [← ed_at hi] at hu hx ⊢
    have a := hg.cost i hi
    have b := (hg.ends i hi).2
    have hlo := (wk_lo hg hw).2
    have ec : (ed l i).2.2 = cpt l i := rfl
    have ee : (ed l i).2.1 = en l i := rfl
    have ef : (ed l i).1 = fr l i := rfl
    rw [ec] at hx ⊢
    rw [ee]
    rw [ef] at hu
    have h1 := (ih (by omega)).2
    have h2 : lkv l s D (en l i) ≤ d + cpt l i := by
      by_cases hs : en l i = s
      · rw [hs, lkv_s]; omega
      · have := lkv_le (D := D) hi b.1 hs rfl
        rw [hu] at this
        omega
    have h3 : dg D (en l i) = lkv l s D (en l i) := Classical.byContradiction fun hc => by
      have := (h.rest _ b.1 b.2 hc).2
      omega
    exact ⟨h3, by omega⟩
theorem Fx.bst {t : Int} (h : Fx n l s t D) (hg : Gd n l s) (hr : Rg n D) (t0 : 0 ≤ t) (t1 : t < n) : Bst l s t (dg D t) := by
  refine ⟨(hr.rg t t0 t1).2, fun hf => h.sound hg hr _ t rfl t0 t1 hf (Int.le_refl _) h.at_, fun x hx => ?_⟩
  rcases Int.lt_or_le x (dg D t) with e | e
  · have := (h.least hg hx e).2; omega
  · exact e
end
end Go.Proofs.Ytamphgcpfncenaa.LifeLaw

namespace Go.Proofs.Ytamphgcpfncenaa.LifeLaw
open NetLaw BellLaw FlowLaw
open Go.Proofs.Ytamphgcpfncenaa.Net (tl ol)
set_option linter.unusedSimpArgs false
set_option linter.unusedVariables false
abbrev Sp := Int × Int × Int
def ky (D R : List Int) (v : Int) : Sp := (min (dg D v) (dg R v), min (dg D v) (dg R v), v)
def ltS (a b : Sp) : Bool := decide (a.1 < b.1 ∨ a.1 = b.1 ∧ (a.2.1 < b.2.1 ∨ a.2.1 = b.2.1 ∧ a.2.2 < b.2.2))
/-- all that is not still to be mended looks right, and waits if it must -/
structure PI (n : Nat) (l : List E) (s : Int) (D R : List Int) (L : List Sp) (pend : Int → Prop) : Prop where
  ok : ∀ v : Int, 0 ≤ v → v < n → (v = s ∨ ¬ pend v) → dg R v = lkv l s D v ∧ (dg D v ≠ dg R v → ky D R v ∈ L)
  ids : ∀ x ∈ L, 0 ≤ x.2.2 ∧ x.2.2 < n
  rl : R.length = n
section
variable {n : Nat} {l : List E} {s v : Int} {D D' R R' : List Int} {L L' : List Sp} {pend pend' : Int → Prop}
theorem PI.mono (h : PI n l s D R L pend) (hp : ∀ u : Int, 0 ≤ u → u < n → pend u → pend' u) : PI n l s D R L pend' :=
  ⟨fun v v0 v1 hv => h.ok v v0 v1 (hv.imp id fun hn hc => hn (hp v v0 v1 hc)), h.ids, h.rl⟩
theorem PI.mend_s (h : PI n l s D R L pend) (hp : ∀ u : Int, pend u → u = s ∨ pend' u) : PI n l s D R L pend' :=
  ⟨fun v v0 v1 hv => h.ok v v0 v1 (by
    rcases hv with e | e
    · exact .inl e
    · by_cases hs : v = s
      · exact .inl hs
      · exact .inr fun hc => (hp v hc).elim hs e), h.ids, h.rl⟩
theorem PI.mend (h : PI n l s D R L pend) (v0 : 0 ≤ v) (v1 : v < n) (hvs : v ≠ s) (hL : ∀ x ∈ L, x ∈ L') (hi : ∀ x ∈ L', 0 ≤ x.2.2 ∧ x.2.2 < n) (hk : dg D v ≠ best l D (ins l v) → ky D (R.set v.toNat (best l D (ins l v))) v ∈ L') (hp : ∀ u : Int, pend u → u = v ∨ pend' u) :
    PI n l s D (R.set v.toNat (best l D (ins l v))) L' pend' := by
  have hd : ∀ u : Int, 0 ≤ u → dg (R.set v.toNat (best l D (ins l v))) u = if u = v then best l D (ins l v) else dg R u := fun u u0 => dg_set v0 (by rw [h.rl]; exact v1) u0
  refine ⟨fun u u0 u1 hu => ?_, hi, by rw [List.length_set]; exact h.rl⟩
  by_cases huv : u = v
  · subst huv
    refine ⟨by rw [hd u u0, if_pos rfl, lkv, if_neg hvs], fun hne => ?_⟩
    rw [hd u u0, if_pos rfl] at hne
    exact hk hne
  · have := h.ok u u0 u1 (by
      rcases hu with e | e
      · exact .inl e
      · exact .inr fun hc => (hp u hc).elim huv e)
    have ek : ky D (R.set v.toNat (best l D (ins l v))) u = ky D R u := by unfold ky; rw [hd u u0, if_neg huv]
    rw [ek, hd u u0, if_neg huv]
    exact ⟨this.1, fun hne => hL _ (this.2 hne)⟩
/-- what waits and is as it was put -/
def frsh (D R : List Int) (x : Sp) : Prop := dg D x.2.2 ≠ dg R x.2.2 ∧ x = ky D R x.2.2
theorem PI.thin (h : PI n l s D R L pend) (hs : ∀ x ∈ L', x ∈ L) (hk : ∀ x ∈ L, frsh D R x → x ∈ L') : PI n l s D R L' pend :=
  ⟨fun v v0 v1 hv => ⟨(h.ok v v0 v1 hv).1, fun hne => hk _ ((h.ok v v0 v1 hv).2 hne) ⟨hne, rfl⟩⟩, fun x hx => h.ids x (hs x hx), h.rl⟩
theorem PI.look (h : PI n l s D R L fun _ => False) (v0 : 0 ≤ v) (v1 : v < n) : dg R v = lkv l s D v := (h.ok v v0 v1 (.inr fun h => h)).1
theorem PI.min_ (h : PI n l s D R L fun _ => False) {x : Sp} (hx : frsh D R x) (hm : ∀ y ∈ L, ltS y x = false) : ∀ u : Int, 0 ≤ u → u < n → dg D u ≠ lkv l s D u → min (dg D x.2.2) (dg R x.2.2) ≤ dg D u ∧ min (dg D x.2.2) (dg R x.2.2) ≤ lkv l s D u := fun u u0 u1 hu => by
  have h1 := h.look u0 u1
  have h2 := hm _ ((h.ok u u0 u1 (.inr fun h => h)).2 (by rw [h1]; exact hu))
  have hx2 := hx.2
  have e1 : x.1 = min (dg D x.2.2) (dg R x.2.2) := by
    have := congrArg Prod.fst hx2
    exact this
  unfold ltS ky at h2
  simp only [decide_eq_false_iff_not, not_or] at h2
  rw [h1] at h2
  omega
theorem lkv_still (hg : Gd n l s) {w : Int} (hne : ∀ u : Int, 0 ≤ u → u < n → u ≠ w → dg D' u = dg D u) {u : Int} (u0 : 0 ≤ u) (hno : ∀ i, i < l.length → en l i = u → fr l i ≠ w) : lkv l s D' u = lkv l s D u := by
  by_cases hs : u = s
  · subst hs; rw [lkv_s, lkv_s]
  · have key : ∀ D D' : List Int, (∀ u : Int, 0 ≤ u → u < n → u ≠ w → dg D' u = dg D u) → lkv l s D' u ≤ lkv l s D u := fun D D' hne => by
      rcases lkv_at (l := l) (D := D) u0 hs with h | ⟨i, hi, he, h⟩
      · rw [h]; exact lkv_far ..
      · have a := lkv_le (D := D') hi u0 hs he
        have b := (hg.ends i hi).1
        rw [hne _ b.1 b.2 (hno i hi he)] at a
        omega
    have a := key D D' hne
    have b := key D' D fun u u0 u1 h => (hne u u0 u1 h).symm
    omega
/-- a place is taken: those behind it are to be mended -/
theorem PI.pop (h : PI n l s D R L fun _ => False) (hg : Gd n l s) (hr : Rg n D) {x : Sp} (v0 : 0 ≤ x.2.2) (v1 : x.2.2 < n) (hL : ∀ y ∈ L, y = x ∨ y ∈ L') (hs : ∀ y ∈ L', y ∈ L) {c : Int} (hp : ∀ i, i < l.length → fr l i = x.2.2 → pend (en l i)) (hc : (x.2.2 = s ∨ ¬ pend x.2.2) → c = dg R x.2.2) :
    PI n l s (D.set x.2.2.toNat c) R L' pend := by
  have hd : ∀ u : Int, 0 ≤ u → dg (D.set x.2.2.toNat c) u = if u = x.2.2 then c else dg D u := fun u u0 => dg_set v0 (by rw [hr.len]; exact v1) u0
  refine ⟨fun u u0 u1 hu => ?_, fun y hy => h.ids y (hs y hy), h.rl⟩
  have h1 := h.ok u u0 u1 (.inr fun h => h)
  have hlk : lkv l s (D.set x.2.2.toNat c) u = lkv l s D u := by
    by_cases hus : u = s
    · subst hus; rw [lkv_s, lkv_s]
    · have hnp : ¬ pend u := hu.resolve_left hus
      exact lkv_still hg (w := x.2.2) (fun z z0 _ hz => by rw [hd z z0, if_neg hz]) u0 fun i hi he hf => hnp (by rw [← he]; exact hp i hi hf)
  refine ⟨by rw [hlk]; exact h1.1, fun hne => ?_⟩
  by_cases huv : u = x.2.2
  · have := hc (by rw [← huv]; exact hu)
    rw [huv, hd _ v0, if_pos rfl] at hne
    exact absurd this hne
  · have ek : ky (D.set x.2.2.toNat c) R u = ky D R u := by unfold ky; rw [hd u u0, if_neg huv]
    rw [hd u u0, if_neg huv] at hne
    rw [ek]
    rcases hL _ (h1.2 hne) with e | e
    · exact absurd (by rw [← e]; rfl) huv
    · exact e
/-- an edge's cost is set -/
theorem set_ed {l : List E} {i : Nat} (hi : i < l.length) (c : Int) (j : Nat) : fr (l.set i (fr l i, en l i, c)) j = fr l j ∧ en (l.set i (fr l i, en l i, c)) j = en l j ∧ (j ≠ i → cpt (l.set i (fr l i, en l i, c)) j = cpt l j) ∧ (j = i → cpt (l.set i (fr l i, en l i, c)) j = c) := by
  unfold fr en cpt ed
  rw [List.getD_eq_getElem?_getD, List.getD_eq_getElem?_getD]
  by_cases e : j = i
  · subst e
    rw [List.getElem?_set_self hi]
    refine ⟨rfl, rfl, fun h => absurd rfl h, fun _ => rfl⟩
  · rw [List.getElem?_set_ne (fun h => e h.symm)]
    exact ⟨rfl, rfl, fun _ => rfl, fun h => absurd h e⟩
theorem ol_congr {l l' : List E} (k v : Nat) (h : ∀ i, fr l' i = fr l i) : ol l' k v = ol l k v := by
  have e : (fun i => (l'.getD i (0, 0, 0)).1 == (v : Int)) = fun i => (l.getD i (0, 0, 0)).1 == (v : Int) := funext fun i => by
    have := h i
    unfold fr ed at this
    rw [this]
  unfold ol
  rw [e]
theorem tl_fr (l : List E) (i : Nat) : fr (tl l) i = en l i := by
  by_cases hi : i < l.length
  · exact (tl_ed l i hi).1
  · unfold fr en ed
    rw [List.getD_eq_getElem?_getD, List.getD_eq_getElem?_getD, List.getElem?_eq_none (by simpa [tl] using hi), List.getElem?_eq_none (by simpa using hi)]
    rfl
theorem ol_set {l : List E} {i : Nat} (hi : i < l.length) (c : Int) (k v : Nat) : ol (l.set i (fr l i, en l i, c)) k v = ol l k v ∧ ol (tl (l.set i (fr l i, en l i, c))) k v = ol (tl l) k v :=
  ⟨ol_congr k v fun j => (set_ed hi c j).1, ol_congr k v fun j => by rw [tl_fr, tl_fr]; exact (set_ed hi c j).2.1⟩
theorem Gd.set (hg : Gd n l s) {i : Nat} (hi : i < l.length) {c : Int} (hc : 1 ≤ c ∧ c ≤ 10000) : Gd n (l.set i (fr l i, en l i, c)) s := by
  refine ⟨fun j hj => ?_, fun j hj => ?_, hg.s0, hg.s1, by rw [List.length_set]; exact hg.len, hg.n64⟩
  · rw [List.length_set] at hj
    rw [(set_ed hi c j).1, (set_ed hi c j).2.1]
    exact hg.ends j hj
  · rw [List.length_set] at hj
    by_cases e : j = i
    · rw [(set_ed hi c j).2.2.2 e]; exact hc
    · rw [(set_ed hi c j).2.2.1 e]; exact hg.cost j hj
theorem PI.edit (h : PI n l s D R L fun _ => False) {i : Nat} (hi : i < l.length) (c : Int) : PI n (l.set i (fr l i, en l i, c)) s D R L fun u => u = en l i := by
  refine ⟨fun u u0 u1 hu => ?_, h.ids, h.rl⟩
  have h1 := h.ok u u0 u1 (.inr fun h => h)
  have hlk : lkv (l.set i (fr l i, en l i, c)) s D u = lkv l s D u := by
    by_cases hus : u = s
    · subst hus; rw [lkv_s, lkv_s]
    · have hnp : u ≠ en l i := hu.resolve_left hus
      unfold lkv
      rw [if_neg hus, if_neg hus]
      have e1 : ins (l.set i (fr l i, en l i, c)) u = ins l u := by unfold ins; rw [List.length_set]; exact (ol_set hi c _ _).2
      rw [e1]
      unfold best
      have key : ∀ (js : List Int) (b : Int), (∀ j ∈ js, j.toNat ≠ i) → js.foldl (mnS (l.set i (fr l i, en l i, c)) D) b = js.foldl (mnS l D) b := by
        intro js
        induction js with
        | nil => intro b _; rfl
        | cons j r ih =>
          intro b hj
          rw [List.foldl_cons, List.foldl_cons, ih _ fun x hx => hj x (List.mem_cons_of_mem _ hx)]
          congr 1
          unfold mnS
          have := hj j (List.mem_cons_self ..)
          rw [(set_ed hi c j.toNat).1, (set_ed hi c j.toNat).2.2.1 this]
      refine key _ _ fun j hj e => ?_
      obtain ⟨k, hk, rfl, he⟩ := (ins_mem u0).1 hj
      rw [Int.toNat_natCast] at e
      subst e
      exact hnp he.symm
  rw [hlk]
  exact h1
theorem rep_dg {x : Int} {v : Int} (v0 : 0 ≤ v) (v1 : v < n) : dg (List.replicate n x) v = x := by
  unfold dg
  rw [List.getD_eq_getElem?_getD, List.getElem?_replicate, if_pos (by omega)]
  rfl
theorem Rg.rep (n : Nat) : Rg n (List.replicate n far) := ⟨by simp, fun v v0 v1 => by rw [rep_dg v0 v1]; exact ⟨by decide, Int.le_refl _⟩⟩
theorem PI.start (hg : Gd n l s) (hL : (0, 0, s) ∈ L) (hi : ∀ x ∈ L, 0 ≤ x.2.2 ∧ x.2.2 < n) : PI n l s (List.replicate n far) ((List.replicate n far).set s.toNat 0) L fun _ => False := by
  have hd : ∀ u : Int, 0 ≤ u → dg ((List.replicate n far).set s.toNat 0) u = if u = s then 0 else dg (List.replicate n far) u := fun u u0 => dg_set hg.s0 (by have := hg.s1; simpa using this) u0
  refine ⟨fun u u0 u1 _ => ?_, hi, by simp⟩
  by_cases hus : u = s
  · subst hus
    refine ⟨by rw [hd u u0, if_pos rfl, lkv_s], fun _ => ?_⟩
    have : ky (List.replicate n far) ((List.replicate n far).set u.toNat 0) u = (0, 0, u) := by
      unfold ky
      rw [hd u u0, if_pos rfl, rep_dg u0 u1]
      rfl
    rw [this]
    exact hL
  · rw [hd u u0, if_neg hus, rep_dg u0 u1]
    refine ⟨?_, fun h => absurd rfl h⟩
    rcases lkv_at (l := l) (D := List.replicate n far) u0 hus with h | ⟨i, hi, he, h⟩
    · exact h.symm
    · have b := (hg.ends i hi).1
      have c := hg.cost i hi
      rw [rep_dg b.1 b.2] at h
      have := lkv_far l s (List.replicate n far) u
      omega
/-- where it stops -/
theorem PI.done {t : Int} (h : PI n l s D R L fun _ => False) (t0 : 0 ≤ t) (t1 : t < n) (hc : dg D t = dg R t) (hm : ∀ u : Int, 0 ≤ u → u < n → dg D u ≠ lkv l s D u → dg D t ≤ dg D u ∧ dg D t ≤ lkv l s D u) : Fx n l s t D := ⟨by rw [hc]; exact h.look t0 t1, hm⟩
theorem PI.none {t : Int} (h : PI n l s D R [] fun _ => False) (t0 : 0 ≤ t) (t1 : t < n) : Fx n l s t D := by
  have key : ∀ u : Int, 0 ≤ u → u < n → dg D u = lkv l s D u := fun u u0 u1 => Classical.byContradiction fun hc => by
    have h1 := h.ok u u0 u1 (.inr fun h => h)
    have := h1.2 (by rw [h1.1]; exact hc)
    simp at this
  exact ⟨key t t0 t1, fun u u0 u1 hc => absurd (key u u0 u1) hc⟩
end
section
open WalkLaw WayLaw
variable {n : Nat} {l : List E} {s t : Int} {D : List Int}
/-- along the ways back: the least edges, and their sum -/
theorem eg_own {u v : Int} (hst : ∀ e ∈ l, e.1 = u → e.2.1 = v → dg D v ≤ dg D u + e.2.2) (h : Lk l D u v) : eg l u v = (dg D v - dg D u, true) := by
  obtain ⟨e, he, h1, h2, h3⟩ := h
  obtain ⟨_, a, b⟩ := eg_fold u v l (0, false)
  obtain ⟨a1, a2⟩ := a e he h1 h2
  unfold eg
  rcases b with b | ⟨x, hx, x1, x2, x3⟩
  · rw [b] at a1; cases a1
  · rw [x3] at a2 ⊢
    have := hst x hx x1 x2
    simp only at a2
    have : x.2.2 = dg D v - dg D u := by omega
    rw [this]
theorem own_links (p : List Int) (x y : Int) (hx : p.head? = some x) (hy : p.getLast? = some y) (hl : ∀ q ∈ prs p, Lk l D q.1 q.2 ∧ ∀ e ∈ l, e.1 = q.1 → e.2.1 = q.2 → dg D q.2 ≤ dg D q.1 + e.2.2) :
    okP l (prs p) = true ∧ sumP l (prs p) = dg D y - dg D x := by
  induction p generalizing x with
  | nil => simp at hx
  | cons a r ih =>
    simp at hx
    subst hx
    cases r with
    | nil =>
      simp at hy
      subst hy
      simp [prs, okP, sumP]
    | cons b r =>
      have hlk := hl (a, b) (by rw [prs_cons]; simp)
      have he := eg_own hlk.2 hlk.1
      obtain ⟨i1, i2⟩ := ih b rfl (by simpa using hy) (fun q hq => hl q (by rw [prs_cons]; simp [hq]))
      rw [prs_cons]
      have s1 : okP l ((a, b) :: prs (b :: r)) = ((eg l a b).2 && okP l (prs (b :: r))) := by simp [okP]
      have s2 : sumP l ((a, b) :: prs (b :: r)) = (eg l a b).1 + sumP l (prs (b :: r)) := by simp [sumP]
      rw [s1, s2, he, i1, i2]
      exact ⟨rfl, by simp only; omega⟩
theorem own_cost (hg : NetLaw.Good n l) (p : List Int) (x y : Int) (hx : p.head? = some x) (hy : p.getLast? = some y) (hn : p.length ≤ 100) (hr : ∀ z ∈ p, 0 ≤ z ∧ z < n) (hl : ∀ q ∈ prs p, Lk l D q.1 q.2 ∧ ∀ e ∈ l, e.1 = q.1 → e.2.1 = q.2 → dg D q.2 ≤ dg D q.1 + e.2.2) : cost n l p = (dg D y - dg D x, 0) := by
  obtain ⟨h1, h2⟩ := own_links p x y hx hy hl
  have h3 : p.any (outB n) = false := by
    rw [List.any_eq_false]
    intro z hz
    have := hr z hz
    simp [outB]
    omega
  have h4 : p.length ≠ 0 := fun h => by rw [List.eq_nil_of_length_eq_zero h] at hx; simp at hx
  unfold cost
  rw [if_neg (by simpa using chk_zero.2 hg), if_neg h4, if_neg (by omega), h3, if_neg (by decide), h1, if_pos rfl, h2]
/-- the way back so far -/
structure Bw (n : Nat) (l : List E) (s t : Int) (D : List Int) (v : Int) (b : List Int) : Prop where
  bk : Bk n l D t v b
  ok : dg D v = lkv l s D v ∧ dg D v ≤ dg D t ∧ 0 ≤ v ∧ v < n
  least : ∀ q ∈ prs b, ∀ e ∈ l, e.1 = q.2 → e.2.1 = q.1 → dg D q.1 ≤ dg D q.2 + e.2.2
theorem Bw.one (h : Fx n l s t D) (t0 : 0 ≤ t) (t1 : t < n) (hf : dg D t < far) : Bw n l s t D t [t] :=
  ⟨Bk.one ⟨t0, t1⟩ hf, ⟨h.at_, Int.le_refl _, t0, t1⟩, fun q hq => by simp [prs] at hq⟩
theorem Bw.add {v : Int} {b : List Int} (h : Bw n l s t D v b) (hx : Fx n l s t D) (hg : Gd n l s) (hr : Rg n D) (hf : dg D t < far) (hvs : v ≠ s) {i : Nat} (hi : i < l.length) (hv : en l i = v) (he : dg D (fr l i) + cpt l i = dg D v) : Bw n l s t D (fr l i) (b ++ [fr l i]) ∧ dg D (fr l i) < dg D v := by
  obtain ⟨o1, o2, o3, o4⟩ := h.ok
  obtain ⟨p1, p2⟩ := hx.prev hg hr o2 hi he
  have b1 := (hg.ends i hi).1
  refine ⟨⟨h.bk.add ⟨ed l i, ed_mem hi, rfl, hv, he⟩ b1 p1 (by omega), ⟨p2, by omega, b1.1, b1.2⟩, fun q hq e hel e1 e2 => ?_⟩, p1⟩
  rw [prs_snoc h.bk.last] at hq
  rcases List.mem_append.1 hq with hq | hq
  · exact h.least q hq e hel e1 e2
  · simp at hq
    subst hq
    simp only at e1 e2 ⊢
    obtain ⟨k, hk, rfl⟩ := List.mem_iff_getElem.1 hel
    rw [← ed_at hk] at e1 e2 ⊢
    have := lkv_le (D := D) hk o3 hvs (show en l k = v from e2)
    have e3 : (ed l k).2.2 = cpt l k := rfl
    have e4 : fr l k = fr l i := e1
    rw [e3]
    rw [e4] at this
    omega
theorem Bw.next {v : Int} {b : List Int} (h : Bw n l s t D v b) (hx : Fx n l s t D) (hg : Gd n l s) (hr : Rg n D) (hf : dg D t < far) (hvs : v ≠ s) : ∃ i, i < l.length ∧ en l i = v ∧ dg D (fr l i) < far ∧ dg D (fr l i) + cpt l i = dg D v := by
  obtain ⟨o1, o2, o3, o4⟩ := h.ok
  obtain ⟨i, hi, he, e⟩ := hx.back hg hr o3 o4 hvs (by omega) o2 o1
  have := (hx.prev hg hr o2 hi e).1
  exact ⟨i, hi, he, by omega, e⟩
theorem Bw.done {b : List Int} (h : Bw n l s t D s b) (hG : NetLaw.Good n l) (n64 : n ≤ 64) : cost n l b.reverse = (dg D t, 0) ∧ b.reverse.head? = some s ∧ b.reverse.getLast? = some t ∧ b.length ≤ n ∧ 1 ≤ b.length := by
  have hw := h.bk.way
  have hlen := h.bk.len
  have hs : dg D s = 0 := by rw [h.ok.1, lkv_s]
  have := own_cost (D := D) hG b.reverse s t hw.head hw.last (by rw [List.length_reverse]; omega) (fun z hz => ⟨(hw.rng z hz).1, (hw.rng z hz).2.1⟩) (fun q hq => ⟨hw.link q hq, by
    rw [prs_rev, List.mem_map] at hq
    obtain ⟨q', hq', rfl⟩ := hq
    exact h.least q' (List.mem_reverse.1 hq')⟩)
  rw [hs, Int.sub_zero] at this
  exact ⟨this, hw.head, hw.last, hlen⟩
end
end Go.Proofs.Ytamphgcpfncenaa.LifeLaw
