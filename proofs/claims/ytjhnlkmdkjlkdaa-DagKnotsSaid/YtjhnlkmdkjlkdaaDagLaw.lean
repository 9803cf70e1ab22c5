/- Plain facts on Kahn's order and on longest costs: no Go in sight. -/
import Derived.Test.YtjhnlkmdkjlkdaaBellLaw
import Derived.Test.YtjhnlkmdkjlkdaaFloydLaw
namespace Go.Proofs.Ytjhnlkmdkjlkdaa.DagLaw
open NetLaw BellLaw
set_option linter.unusedSimpArgs false
set_option linter.unusedVariables false
/-- edges to v from those who have not come -/
def inn (l : List E) (out : List Int) (v : Int) : Nat := l.countP fun e => decide (e.2.1 = v ∧ e.1 ∉ out)
/-- edges to v -/
def tdn (todo : List E) (v : Int) : Nat := todo.countP fun e => decide (e.2.1 = v)
theorem tdn_snoc (l : List E) (e : E) (v : Int) : tdn (l ++ [e]) v = tdn l v + if e.2.1 = v then 1 else 0 := by
  simp only [tdn, List.countP_append, List.countP_cons, List.countP_nil]
  by_cases h : e.2.1 = v <;> simp [h]
theorem tdn_cons (l : List E) (e : E) (v : Int) : tdn (e :: l) v = tdn l v + if e.2.1 = v then 1 else 0 := by
  simp only [tdn, List.countP_cons]
  by_cases h : e.2.1 = v <;> simp [h]
theorem tdn_le (l : List E) (v : Int) : tdn l v ≤ l.length := List.countP_le_length
theorem inn_nil (l : List E) (v : Int) : inn l [] v = tdn l v := by simp [inn, tdn]
/-- v comes: its edges are now to be taken off -/
theorem inn_take (l : List E) (out : List Int) (v u : Int) (hv : v ∉ out) : inn l out u = inn l (out ++ [v]) u + tdn (l.filter fun e => decide (e.1 = v)) u := by
  unfold inn tdn
  induction l with
  | nil => rfl
  | cons e r ih =>
    rw [List.countP_cons, List.countP_cons, ih, List.filter_cons]
    by_cases h1 : e.1 = v
    · have h2 : e.1 ∉ out := by rw [h1]; exact hv
      by_cases h3 : e.2.1 = u
      · simp [h1, h3, hv, List.countP_cons]; omega
      · simp [h1, h3, List.countP_cons]
    · by_cases h3 : e.2.1 = u
      · by_cases h4 : e.1 ∈ out
        · simp [h1, h3, h4]
        · simp [h1, h3, h4]; omega
      · simp [h1, h3]
/-- what holds all along: A how many edges lead to each from those who have not come, H who waits, out who has come, todo the edges still to be taken off -/
structure KI (N : Nat) (l : List E) (A H out : List Int) (todo : List E) : Prop where
  len : A.length = N
  cnt : ∀ v : Int, 0 ≤ v → v < N → dg A v = ((inn l out v + tdn todo v : Nat) : Int)
  zero : ∀ v : Int, 0 ≤ v → v < N → (dg A v = 0 ↔ v ∈ H ∨ v ∈ out)
  hr : ∀ v ∈ H, 0 ≤ v ∧ v < N
  or_ : ∀ v ∈ out, 0 ≤ v ∧ v < N
  nd : (H ++ out).Nodup
  fwd : ∀ i (h : i < out.length), ∀ e ∈ l, e.2.1 = out[i] → e.1 ∈ out.take i
/-- an order in which each edge leads on -/
structure Topo (N : Nat) (l : List E) (out : List Int) : Prop where
  len : out.length = N
  rng : ∀ v ∈ out, 0 ≤ v ∧ v < N
  nd : out.Nodup
  fwd : ∀ i (h : i < out.length), ∀ e ∈ l, e.2.1 = out[i] → e.1 ∈ out.take i
section
variable {N : Nat} {l : List E} {A H H' out : List Int} {todo : List E}
theorem KI.start (hl : A.length = N) (hc : ∀ v : Int, 0 ≤ v → v < N → dg A v = ((tdn l v : Nat) : Int)) (hn : H.Nodup) (hm : ∀ v : Int, v ∈ H ↔ 0 ≤ v ∧ v < N ∧ dg A v = 0) : KI N l A H [] [] := by
  refine ⟨hl, fun v v0 v1 => ?_, fun v v0 v1 => ?_, fun v hv => ?_, (fun v hv => by cases hv), by simpa using hn, fun i h => absurd h (Nat.not_lt_zero _)⟩
  · rw [hc v v0 v1, inn_nil]; rfl
  · rw [hm]; constructor
    · intro x; exact .inl ⟨v0, v1, x⟩
    · rintro (x | x)
      · exact x.2.2
      · cases x
  · have := (hm v).1 hv; exact ⟨this.1, this.2.1⟩
theorem KI.take {v : Int} (h : KI N l A H out []) (hp : (v :: H').Perm H) : KI N l A H' (out ++ [v]) (l.filter fun e => decide (e.1 = v)) ∧ 0 ≤ v ∧ v < N := by
  have hv : v ∈ H := hp.mem_iff.1 (List.mem_cons_self ..)
  obtain ⟨v0, v1⟩ := h.hr v hv
  have hnd : ((v :: H') ++ out).Nodup := (hp.append_right out).nodup_iff.2 h.nd
  rw [List.cons_append, List.nodup_cons] at hnd
  obtain ⟨hn1, hn2⟩ := hnd
  rw [List.mem_append, not_or] at hn1
  refine ⟨⟨h.len, fun u u0 u1 => ?_, fun u u0 u1 => ?_, fun u hu => h.hr u (hp.mem_iff.1 (List.mem_cons_of_mem _ hu)), fun u hu => ?_, ?_, fun i hi e he ht => ?_⟩, v0, v1⟩
  · rw [h.cnt u u0 u1, inn_take l out v u hn1.2]; rfl
  · rw [h.zero u u0 u1, ← hp.mem_iff, List.mem_cons, List.mem_append, List.mem_singleton]
    constructor
    · rintro ((h1 | h1) | h1)
      · exact .inr (.inr h1)
      · exact .inl h1
      · exact .inr (.inl h1)
    · rintro (h1 | h1 | h1)
      · exact .inl (.inr h1)
      · exact .inr h1
      · exact .inl (.inl h1)
  · rcases List.mem_append.1 hu with h1 | h1
    · exact h.or_ u h1
    · rw [List.mem_singleton] at h1; subst h1; exact ⟨v0, v1⟩
  · rw [← List.append_assoc, List.nodup_append]
    refine ⟨hn2, by simp, fun a ha b hb e => ?_⟩
    rw [List.mem_singleton] at hb
    subst hb e
    rcases List.mem_append.1 ha with h1 | h1
    · exact hn1.1 h1
    · exact hn1.2 h1
  · rw [List.length_append, List.length_singleton] at hi
    by_cases hlt : i < out.length
    · rw [List.getElem_append_left hlt] at ht
      rw [List.take_append_of_le_length (by omega)]
      exact h.fwd i hlt e he ht
    · obtain rfl : i = out.length := by omega
      rw [List.getElem_append_right (Nat.le_refl _)] at ht
      simp at ht
      rw [List.take_append_of_le_length (Nat.le_refl _), List.take_length]
      have hz := (h.zero v v0 v1).2 (.inl hv)
      rw [h.cnt v v0 v1] at hz
      have hz2 : inn l out v = 0 := by omega
      unfold inn at hz2
      rw [List.countP_eq_zero] at hz2
      have := hz2 e he
      simp only [decide_eq_true_eq, not_and, Decidable.not_not] at this
      exact this ht
theorem KI.dec {e : E} (h : KI N l A H out (e :: todo)) (t0 : 0 ≤ e.2.1) (t1 : e.2.1 < N) :
    1 ≤ dg A e.2.1 ∧ (dg A e.2.1 - 1 = 0 → ∀ H', H'.Perm (e.2.1 :: H) → KI N l (A.set e.2.1.toNat (dg A e.2.1 - 1)) H' out todo) ∧ (dg A e.2.1 - 1 ≠ 0 → KI N l (A.set e.2.1.toNat (dg A e.2.1 - 1)) H out todo) := by
  have hl := h.len
  have hs := fun v hv => dg_set (D := A) (t := e.2.1) (v := v) (x := dg A e.2.1 - 1) t0 (by omega) hv
  have hc := h.cnt e.2.1 t0 t1
  rw [tdn_cons, if_pos rfl] at hc
  have h1 : 1 ≤ dg A e.2.1 := by omega
  have hno : e.2.1 ∉ H ∧ e.2.1 ∉ out := by
    rw [← not_or]
    intro hm
    have := (h.zero _ t0 t1).2 hm
    omega
  have hcnt : ∀ v : Int, 0 ≤ v → v < N → dg (A.set e.2.1.toNat (dg A e.2.1 - 1)) v = ((inn l out v + tdn todo v : Nat) : Int) := fun v v0 v1 => by
    rw [hs v v0]
    by_cases hv : v = e.2.1
    · subst hv; rw [if_pos rfl]; omega
    · rw [if_neg hv, h.cnt v v0 v1, tdn_cons, if_neg (fun x => hv x.symm)]; rfl
  refine ⟨h1, fun hz H' hp => ⟨by rw [List.length_set]; exact hl, hcnt, fun v v0 v1 => ?_, fun v hv => ?_, h.or_, ?_, h.fwd⟩, fun hz => ⟨by rw [List.length_set]; exact hl, hcnt, fun v v0 v1 => ?_, h.hr, h.or_, h.nd, h.fwd⟩⟩
  · rw [hs v v0, hp.mem_iff, List.mem_cons]
    by_cases hv : v = e.2.1
    · subst hv; rw [if_pos rfl]; simp [hz]
    · rw [if_neg hv, h.zero v v0 v1]; simp [hv]
  · rcases List.mem_cons.1 (hp.mem_iff.1 hv) with rfl | hv
    · exact ⟨t0, t1⟩
    · exact h.hr v hv
  · refine (hp.append_right out).nodup_iff.2 ?_
    rw [List.cons_append, List.nodup_cons, List.mem_append, not_or]
    exact ⟨hno, h.nd⟩
  · rw [hs v v0]
    by_cases hv : v = e.2.1
    · subst hv; rw [if_pos rfl]
      constructor
      · intro x; exact absurd x hz
      · rintro (x | x)
        · exact absurd x hno.1
        · exact absurd x hno.2
    · rw [if_neg hv]; exact h.zero v v0 v1
theorem KI.len_le (h : KI N l A H out todo) : H.length + out.length ≤ N := by
  have h1 : ((H ++ out).map Int.toNat).Nodup := by
    rw [List.Nodup, List.pairwise_map]
    refine List.Pairwise.imp_of_mem (fun {x y} hx hy hxy e => hxy ?_) h.nd
    have hx' : 0 ≤ x ∧ x < N := by rcases List.mem_append.1 hx with q | q; exact h.hr x q; exact h.or_ x q
    have hy' : 0 ≤ y ∧ y < N := by rcases List.mem_append.1 hy with q | q; exact h.hr y q; exact h.or_ y q
    omega
  have h3 := FloydLaw.nodup_len h1 (k := N) (fun m hm => by
    rw [List.mem_map] at hm
    obtain ⟨y, hy, rfl⟩ := hm
    have hy' : 0 ≤ y ∧ y < N := by rcases List.mem_append.1 hy with q | q; exact h.hr y q; exact h.or_ y q
    omega)
  simpa using h3
theorem KI.fin (h : KI N l A [] out []) (hl : ¬ out.length < N) : Topo N l out :=
  ⟨by have := h.len_le; simp at this; omega, h.or_, by simpa using h.nd, h.fwd⟩
end
/-- all that has come, where not all comes -/
structure Stuck (N : Nat) (l : List E) (out : List Int) : Prop where
  some_ : ∃ v : Int, 0 ≤ v ∧ v < N ∧ v ∉ out
  back : ∀ v : Int, 0 ≤ v → v < N → v ∉ out → ∃ e ∈ l, e.2.1 = v ∧ e.1 ∉ out
theorem all_len {N : Nat} {out : List Int} (h : ∀ v : Int, 0 ≤ v → v < N → v ∈ out) : N ≤ out.length := by
  have h3 : ∀ (N : Nat) (out : List Int), (∀ v : Int, 0 ≤ v → v < N → v ∈ out) → N ≤ out.length := by
    intro N
    induction N with
    | zero => intro _ _; exact Nat.zero_le _
    | succ N ih =>
      intro out h
      have hm := h (N : Int) (by omega) (by omega)
      have := ih (out.erase (N : Int)) (fun v v0 v1 => by
        rw [List.mem_erase_of_ne (by omega)]
        exact h v v0 (by omega))
      rw [List.length_erase_of_mem hm] at this
      have := List.length_pos_of_mem hm
      omega
  exact h3 N out h
theorem KI.stuck {N : Nat} {l : List E} {A out : List Int} (h : KI N l A [] out []) (hl : out.length < N) : Stuck N l out := by
  refine ⟨?_, fun v v0 v1 hv => ?_⟩
  · by_cases hex : ∃ v : Int, 0 ≤ v ∧ v < N ∧ v ∉ out
    · exact hex
    · have := all_len (N := N) (out := out) fun v v0 v1 => by
        by_cases hv : v ∈ out
        · exact hv
        · exact absurd ⟨v, v0, v1, hv⟩ hex
      omega
  · have hz : dg A v ≠ 0 := fun hz => by
      rcases (h.zero v v0 v1).1 hz with h1 | h1
      · cases h1
      · exact hv h1
    rw [h.cnt v v0 v1] at hz
    have h1 : 0 < inn l out v := by
      have : tdn [] v = 0 := rfl
      omega
    unfold inn at h1
    rw [List.countP_pos_iff] at h1
    obtain ⟨e, he, h2⟩ := h1
    rw [decide_eq_true_eq] at h2
    exact ⟨e, he, h2⟩
/-- longest costs, between two places -/
structure LB (N : Nat) (l : List E) (dn : List Int) (D : List Int) : Prop where
  len : D.length = N
  lo : ∀ v : Int, 0 ≤ v → v < N → 0 ≤ dg D v ∧ dg D v ≤ 10000 * (dn.length : Int)
  rel : ∀ e ∈ l, e.1 ∈ dn → dg D e.1 + e.2.2 ≤ dg D e.2.1
  tight : ∀ v : Int, 0 ≤ v → v < N → 0 < dg D v → ∃ e ∈ l, e.2.1 = v ∧ e.1 ∈ dn ∧ dg D e.1 + e.2.2 = dg D v
/-- .. and at one: v, its edges still to be looked at -/
structure LI (N : Nat) (l : List E) (dn : List Int) (v : Int) (D : List Int) (todo : List E) : Prop where
  len : D.length = N
  lo : ∀ u : Int, 0 ≤ u → u < N → 0 ≤ dg D u ∧ dg D u ≤ 10000 * (dn.length + 1 : Int)
  lov : dg D v ≤ 10000 * (dn.length : Int)
  rel : ∀ e ∈ l, e.1 ∈ dn → dg D e.1 + e.2.2 ≤ dg D e.2.1
  cur : ∀ e ∈ l, e.1 = v → e ∈ todo ∨ dg D e.1 + e.2.2 ≤ dg D e.2.1
  tight : ∀ u : Int, 0 ≤ u → u < N → 0 < dg D u → ∃ e ∈ l, e.2.1 = u ∧ (e.1 ∈ dn ∨ e.1 = v) ∧ dg D e.1 + e.2.2 = dg D u
section
variable {N : Nat} {l : List E} {dn D : List Int} {v : Int} {todo : List E}
theorem LB.start (l : List E) : LB N l [] (List.replicate N 0) := by
  have hz : ∀ v : Int, dg (List.replicate N 0) v = 0 := fun v => by
    unfold dg
    rw [List.getD_eq_getElem?_getD, List.getElem?_replicate]
    split <;> rfl
  refine ⟨by simp, fun v _ _ => by rw [hz]; simp, (fun e _ h => by cases h), fun v _ _ h => by rw [hz] at h; omega⟩
theorem LB.go (h : LB N l dn D) (v0 : 0 ≤ v) (v1 : v < N) (ht : ∀ e ∈ l, e.1 = v → e ∈ todo) : LI N l dn v D todo :=
  ⟨h.len, fun u u0 u1 => by have := h.lo u u0 u1; omega, (h.lo v v0 v1).2, h.rel, fun e he hv => .inl (ht e he hv), fun u u0 u1 hu => by
    obtain ⟨e, he, h1, h2, h3⟩ := h.tight u u0 u1 hu
    exact ⟨e, he, h1, .inl h2, h3⟩⟩
theorem LI.stop (h : LI N l dn v D []) : LB N l (dn ++ [v]) D := by
  refine ⟨h.len, fun u u0 u1 => by have := h.lo u u0 u1; simp; omega, fun e he hd => ?_, fun u u0 u1 hu => ?_⟩
  · rcases List.mem_append.1 hd with h1 | h1
    · exact h.rel e he h1
    · rw [List.mem_singleton] at h1
      rcases h.cur e he h1 with h2 | h2
      · cases h2
      · exact h2
  · obtain ⟨e, he, h1, h2, h3⟩ := h.tight u u0 u1 hu
    refine ⟨e, he, h1, ?_, h3⟩
    rw [List.mem_append, List.mem_singleton]
    exact h2
theorem LI.step {e : E} (h : LI N l dn v D (e :: todo)) (hends : ∀ e ∈ l, 0 ≤ e.1 ∧ e.1 < N ∧ 0 ≤ e.2.1 ∧ e.2.1 < N) (he : e ∈ l) (hv : e.1 = v) (ht : e.2.1 ∉ dn) (htv : e.2.1 ≠ v) (hc : e.2.2 ≤ 10000) :
    LI N l dn v (D.set e.2.1.toNat (max (dg D e.2.1) (dg D v + e.2.2))) todo := by
  have hl := h.len
  obtain ⟨v0, v1, t0, t1⟩ := hends e he
  rw [hv] at v0 v1
  have hs := fun u hu => dg_set (D := D) (t := e.2.1) (v := u) (x := max (dg D e.2.1) (dg D v + e.2.2)) t0 (by omega) hu
  have hsv : dg (D.set e.2.1.toNat (max (dg D e.2.1) (dg D v + e.2.2))) v = dg D v := by rw [hs v v0, if_neg (fun x => htv x.symm)]
  have hdn : ∀ u, 0 ≤ u → u ∈ dn → dg (D.set e.2.1.toNat (max (dg D e.2.1) (dg D v + e.2.2))) u = dg D u := fun u u0 hu => by
    rw [hs u u0, if_neg (fun x => ht (by rw [← x]; exact hu))]
  have hge : ∀ u, 0 ≤ u → dg D u ≤ dg (D.set e.2.1.toNat (max (dg D e.2.1) (dg D v + e.2.2))) u := fun u u0 => by
    rw [hs u u0]
    split
    · rename_i x; subst x; omega
    · omega
  refine ⟨by rw [List.length_set]; exact hl, fun u u0 u1 => ?_, by rw [hsv]; exact h.lov, fun x hx hd => ?_, fun x hx hxv => ?_, fun u u0 u1 hu => ?_⟩
  · rw [hs u u0]
    have a := h.lo u u0 u1
    have b := h.lov
    split
    · rename_i x; subst x; omega
    · exact a
  · obtain ⟨a, _, b, _⟩ := hends x hx
    rw [hdn x.1 a hd]
    have := h.rel x hx hd
    have := hge x.2.1 b
    omega
  · obtain ⟨a, _, b, _⟩ := hends x hx
    rcases h.cur x hx hxv with h1 | h1
    · rcases List.mem_cons.1 h1 with h2 | h2
      · right
        subst h2
        rw [hxv, hsv, hs _ b, if_pos rfl]
        omega
      · exact .inl h2
    · right
      rw [hxv, hsv]
      rw [hxv] at h1
      have := hge x.2.1 b
      omega
  · rw [hs u u0] at hu ⊢
    have keep : ∀ y : E, y ∈ l → (y.1 ∈ dn ∨ y.1 = v) → dg (D.set e.2.1.toNat (max (dg D e.2.1) (dg D v + e.2.2))) y.1 = dg D y.1 := fun y hy hd => by
      rcases hd with hd | hd
      · exact hdn _ (hends y hy).1 hd
      · rw [hd, hsv]
    by_cases e1 : u = e.2.1
    · rw [if_pos e1] at hu ⊢
      by_cases e2 : dg D e.2.1 < dg D v + e.2.2
      · refine ⟨e, he, e1.symm, .inr hv, ?_⟩
        rw [keep e he (.inr hv), hv]
        omega
      · obtain ⟨y, hy, y1, y2, y3⟩ := h.tight u u0 u1 (by rw [e1]; omega)
        refine ⟨y, hy, y1, y2, ?_⟩
        rw [keep y hy y2, y3, e1]
        omega
    · rw [if_neg e1] at hu ⊢
      obtain ⟨y, hy, y1, y2, y3⟩ := h.tight u u0 u1 hu
      exact ⟨y, hy, y1, y2, by rw [keep y hy y2, y3]⟩
/-- along an order: the edges of a place lead to none that has come -/
theorem Topo.next {out : List Int} (h : Topo N l out) {i : Nat} (hi : i < out.length) {e : E} (he : e ∈ l) (hv : e.1 = out[i]) : e.2.1 ∉ out.take i ∧ e.2.1 ≠ out[i] := by
  have key : ∀ j (hj : j < out.length), j ≤ i → e.2.1 ≠ out[j] := fun j hj hji ht => by
    have := h.fwd j hj e he ht
    rw [hv] at this
    obtain ⟨m, hm, hm2⟩ := List.mem_iff_getElem.1 this
    rw [List.length_take] at hm
    rw [List.getElem_take] at hm2
    have := (List.getElem_inj h.nd).1 hm2
    omega
  refine ⟨fun hm => ?_, key i hi (Nat.le_refl _)⟩
  obtain ⟨m, hm1, hm2⟩ := List.mem_iff_getElem.1 hm
  rw [List.length_take] at hm1
  rw [List.getElem_take] at hm2
  exact key m (by omega) (by omega) hm2.symm
theorem Topo.mem {out : List Int} (h : Topo N l out) {v : Int} (v0 : 0 ≤ v) (v1 : v < N) : v ∈ out := by
  by_cases hm : v ∈ out
  · exact hm
  · exfalso
    have hr : ∀ x ∈ v :: out, 0 ≤ x ∧ x < N := fun x hx => by
      rcases List.mem_cons.1 hx with rfl | hx
      · exact ⟨v0, v1⟩
      · exact h.rng x hx
    have hn : (v :: out).Nodup := List.nodup_cons.2 ⟨hm, h.nd⟩
    have h1 : ((v :: out).map Int.toNat).Nodup := by
      rw [List.Nodup, List.pairwise_map]
      refine List.Pairwise.imp_of_mem (fun {x y} hx hy hxy e => hxy ?_) hn
      have := hr x hx
      have := hr y hy
      omega
    have h3 := FloydLaw.nodup_len h1 (k := N) (fun m hm => by
      rw [List.mem_map] at hm
      obtain ⟨y, hy, rfl⟩ := hm
      have := hr y hy
      omega)
    simp only [List.length_map, List.length_cons, h.len] at h3
    omega
end
end Go.Proofs.Ytjhnlkmdkjlkdaa.DagLaw
