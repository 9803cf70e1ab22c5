/- Plain facts on Dijkstra's running: no Go in sight. -/
import Derived.Test.YtjebckehmmbkbaaVBellLaw
namespace Go.Proofs.Ytjebckehmmbkbaa.DijkLaw
open NetLaw BellLaw
set_option linter.unusedSimpArgs false
set_option linter.unusedVariables false
/-- what holds all along: D what it costs so far, L what waits (cost, place), dn who is done, cur the cost that was come to, todo the edges still to be looked at, b how many may wait -/
structure Inv (N fr : Int) (l : List E) (D : List Int) (L : List (Int × Int)) (dn : List Int) (cur : Int) (todo : List E) (b : Nat) : Prop where
  len : (D.length : Int) = N
  lo : ∀ v, 0 ≤ v → v < N → 0 ≤ dg D v ∧ dg D v ≤ far
  st : dg D fr = 0
  wk : ∀ v, 0 ≤ v → v < N → dg D v < far → Wk l fr v (dg D v)
  ent : ∀ p ∈ L, 0 ≤ p.2 ∧ p.2 < N ∧ dg D p.2 ≤ p.1 ∧ cur ≤ p.1 ∧ (p.2 ∈ dn → dg D p.2 < p.1)
  nd : L.Nodup
  pend : ∀ v, 0 ≤ v → v < N → dg D v < far → v ∉ dn → (dg D v, v) ∈ L
  dnle : ∀ v ∈ dn, 0 ≤ v ∧ v < N ∧ dg D v ≤ cur
  dnnd : dn.Nodup
  rel : ∀ e ∈ l, e.1 ∈ dn → e ∈ todo ∨ dg D e.2.1 ≤ dg D e.1 + e.2.2
  cnt : L.length ≤ b
section
variable {N fr : Int} {l : List E} {D : List Int} {L L' : List (Int × Int)} {dn : List Int} {cur k v : Int} {todo : List E} {b : Nat}
/-- what was taken is dearer than it need be -/
theorem Inv.skip (h : Inv N fr l D L dn cur [] b) (hp : ((k, v) :: L').Perm L) (hmin : ∀ q ∈ L, k ≤ q.1) (hk : dg D v < k) : Inv N fr l D L' dn k [] b := by
  have hck : cur ≤ k := (h.ent (k, v) (hp.mem_iff.1 (List.mem_cons_self ..))).2.2.2.1
  refine ⟨h.len, h.lo, h.st, h.wk, fun q hq => ?_, (List.nodup_cons.1 (hp.nodup_iff.2 h.nd)).2, fun u u0 u1 hu hd => ?_, fun u hu => ?_, h.dnnd, h.rel, ?_⟩
  · have hq' := hp.mem_iff.1 (List.mem_cons_of_mem _ hq)
    obtain ⟨a, b, c, _, e⟩ := h.ent q hq'
    exact ⟨a, b, c, hmin q hq', e⟩
  · rcases List.mem_cons.1 (hp.mem_iff.2 (h.pend u u0 u1 hu hd)) with e | e
    · injection e with e1 e2
      subst e2
      omega
    · exact e
  · obtain ⟨a, b, c⟩ := h.dnle u hu
    exact ⟨a, b, by omega⟩
  · have := hp.length_eq
    have := h.cnt
    simp at *
    omega
/-- what was taken is what it costs -/
theorem Inv.take (h : Inv N fr l D L dn cur [] b) (hp : ((k, v) :: L').Perm L) (hmin : ∀ q ∈ L, k ≤ q.1) (hk : ¬ dg D v < k) : dg D v = k ∧ 0 ≤ v ∧ v < N ∧ v ∉ dn ∧ (∀ todo : List E, (∀ e ∈ l, e.1 = v → e ∈ todo) → Inv N fr l D L' (v :: dn) k todo b) := by
  obtain ⟨v0, v1, h2, hck, h4⟩ := h.ent (k, v) (hp.mem_iff.1 (List.mem_cons_self ..))
  simp only at v0 v1 h2 hck h4
  have hdv : dg D v = k := by omega
  have hnd : v ∉ dn := fun hv => by have := h4 hv; omega
  have hnd2 := List.nodup_cons.1 (hp.nodup_iff.2 h.nd)
  refine ⟨hdv, v0, v1, hnd, fun todo ht => ⟨h.len, h.lo, h.st, h.wk, fun q hq => ?_, hnd2.2, fun u u0 u1 hu hd => ?_, fun u hu => ?_, List.nodup_cons.2 ⟨hnd, h.dnnd⟩, fun e he hd => ?_, ?_⟩⟩
  · have hq' := hp.mem_iff.1 (List.mem_cons_of_mem _ hq)
    obtain ⟨a, b, c, _, e⟩ := h.ent q hq'
    refine ⟨a, b, c, hmin q hq', fun hm => ?_⟩
    rcases List.mem_cons.1 hm with e1 | e1
    · have hne : q.1 ≠ k := fun e2 => hnd2.1 (by
        have : q = (k, v) := Prod.ext e2 e1
        rw [← this]; exact hq)
      rw [e1] at c ⊢
      omega
    · exact e e1
  · have hd' : u ∉ dn := fun x => hd (List.mem_cons_of_mem _ x)
    rcases List.mem_cons.1 (hp.mem_iff.2 (h.pend u u0 u1 hu hd')) with e | e
    · injection e with e1 e2
      exact absurd (by rw [e2]; exact List.mem_cons_self ..) hd
    · exact e
  · rcases List.mem_cons.1 hu with e | e
    · subst e; exact ⟨v0, v1, by omega⟩
    · obtain ⟨a, b, c⟩ := h.dnle u e
      exact ⟨a, b, by omega⟩
  · rcases List.mem_cons.1 hd with e1 | e1
    · exact .inl (ht e he e1)
    · rcases h.rel e he e1 with e2 | e2
      · cases e2
      · exact .inr e2
  · have := hp.length_eq
    have := h.cnt
    simp at *
    omega
/-- an edge that gives way -/
theorem Inv.give {e : E} {u : Int} (h : Inv N fr l D L dn cur (e :: todo) b) (hu : e.1 = u) (hud : u ∈ dn) (hdu : dg D u = cur) (he : e ∈ l) (hc : 0 ≤ e.2.2) (ht : 0 ≤ e.2.1 ∧ e.2.1 < N) (hfr : 0 ≤ fr) (hlt : cur + e.2.2 < dg D e.2.1) (hp : L'.Perm ((cur + e.2.2, e.2.1) :: L)) :
    Inv N fr l (D.set e.2.1.toNat (cur + e.2.2)) L' dn cur todo (b + 1) := by
  have hl := h.len
  have hs := fun v hv => dg_set (D := D) (t := e.2.1) (v := v) (x := cur + e.2.2) ht.1 (by omega) hv
  obtain ⟨u0, u1, _⟩ := h.dnle u hud
  have hcur : 0 ≤ cur := by have := (h.lo u u0 u1).1; omega
  have hfar := (h.lo e.2.1 ht.1 ht.2).2
  have htd : e.2.1 ∉ dn := fun hd => by have := (h.dnle _ hd).2.2; omega
  have hsame : ∀ v, v ∈ dn → dg (D.set e.2.1.toNat (cur + e.2.2)) v = dg D v := fun v hv => by
    have hne : ¬ v = e.2.1 := fun x => htd (by rw [← x]; exact hv)
    rw [hs v (h.dnle v hv).1, if_neg hne]
  have hle : ∀ v, 0 ≤ v → dg (D.set e.2.1.toNat (cur + e.2.2)) v ≤ dg D v := fun v hv => by
    rw [hs v hv]; split
    · rename_i x; subst x; omega
    · exact Int.le_refl _
  refine ⟨by rw [List.length_set]; exact hl, fun v v0 v1 => ?_, ?_, fun v v0 v1 hv => ?_, fun q hq => ?_, ?_, fun v v0 v1 hv hd => ?_, fun v hv => ?_, h.dnnd, fun x hx hd => ?_, ?_⟩
  · rw [hs v v0]; split
    · omega
    · exact h.lo v v0 v1
  · rw [hs fr hfr, if_neg (fun x => by have := h.st; rw [x] at this; omega)]
    exact h.st
  · rw [hs v v0] at hv ⊢
    split
    · rename_i x
      subst x
      have hw := h.wk u u0 u1 (by omega)
      rw [hdu] at hw
      exact Wk.step hw he hu
    · rename_i x
      rw [if_neg x] at hv
      exact h.wk v v0 v1 hv
  · rcases List.mem_cons.1 (hp.mem_iff.1 hq) with x | x
    · subst x
      refine ⟨ht.1, ht.2, ?_, by simp only; omega, fun hd => absurd hd htd⟩
      simp only
      rw [hs _ ht.1, if_pos rfl]
      exact Int.le_refl _
    · obtain ⟨a, b, c, d, f⟩ := h.ent q x
      refine ⟨a, b, Int.le_trans (hle _ a) c, d, fun hd => ?_⟩
      rw [hsame _ hd]
      exact f hd
  · rw [hp.nodup_iff, List.nodup_cons]
    refine ⟨fun hm => ?_, h.nd⟩
    have := (h.ent _ hm).2.2.1
    simp only at this
    omega
  · rw [hs v v0] at hv ⊢
    rw [hp.mem_iff]
    split
    · rename_i x
      subst x
      exact List.mem_cons_self ..
    · rename_i x
      rw [if_neg x] at hv
      exact List.mem_cons_of_mem _ (h.pend v v0 v1 hv hd)
  · rw [hsame v hv]
    exact h.dnle v hv
  · have hx2 := hsame _ hd
    by_cases hxt : x.2.1 = e.2.1
    · rcases h.rel x hx hd with y | y
      · rcases List.mem_cons.1 y with z | z
        · subst z
          right
          rw [hx2, hs _ ht.1, if_pos rfl, hu, hdu]
          exact Int.le_refl _
        · exact .inl z
      · right
        rw [hx2]
        have := hle x.2.1 (by rw [hxt]; exact ht.1)
        omega
    · rcases h.rel x hx hd with y | y
      · rcases List.mem_cons.1 y with z | z
        · subst z; exact absurd rfl hxt
        · exact .inl z
      · right
        rw [hx2]
        by_cases x0 : 0 ≤ x.2.1
        · have := hle x.2.1 x0; omega
        · have e1 : dg (D.set e.2.1.toNat (cur + e.2.2)) x.2.1 ≤ dg D x.2.1 := by
            unfold dg
            have e2 : x.2.1.toNat = (0 : Int).toNat := by omega
            rw [e2]
            exact hle 0 (Int.le_refl _)
          omega
  · have := hp.length_eq
    have := h.cnt
    simp at *
    omega
/-- an edge that does not -/
theorem Inv.stay {e : E} {u : Int} (h : Inv N fr l D L dn cur (e :: todo) b) (hu : e.1 = u) (hdu : dg D u = cur) (hge : ¬ cur + e.2.2 < dg D e.2.1) : Inv N fr l D L dn cur todo (b + 1) :=
  ⟨h.len, h.lo, h.st, h.wk, h.ent, h.nd, h.pend, h.dnle, h.dnnd, fun x hx hd => by
    rcases h.rel x hx hd with y | y
    · rcases List.mem_cons.1 y with z | z
      · subst z
        right
        rw [hu, hdu]
        omega
      · exact .inl z
    · exact .inr y, Nat.le_succ_of_le h.cnt⟩
/-- what it costs from fr -/
structure Sh (N fr : Int) (l : List E) (D : List Int) : Prop where
  len : (D.length : Int) = N
  lo : ∀ v, 0 ≤ v → v < N → 0 ≤ dg D v ∧ dg D v ≤ far
  st : dg D fr = 0
  wk : ∀ v, 0 ≤ v → v < N → dg D v < far → Wk l fr v (dg D v)
  still : ∀ e ∈ l, dg D e.1 < far → dg D e.2.1 ≤ dg D e.1 + e.2.2
theorem Inv.fin (h : Inv N fr l D [] dn cur [] b) (hends : ∀ e ∈ l, 0 ≤ e.1 ∧ e.1 < N ∧ 0 ≤ e.2.1 ∧ e.2.1 < N) : Sh N fr l D := by
  refine ⟨h.len, h.lo, h.st, h.wk, fun e he hf => ?_⟩
  obtain ⟨a, b, _, _⟩ := hends e he
  by_cases hd : e.1 ∈ dn
  · rcases h.rel e he hd with x | x
    · cases x
    · exact x
  · have := h.pend e.1 a b hf hd
    cases this
theorem Sh.walk_le (h : Sh N fr l D) (hends : ∀ e ∈ l, 0 ≤ e.1 ∧ e.1 < N ∧ 0 ≤ e.2.1 ∧ e.2.1 < N) {v d : Int} (hw : Wk l fr v d) (hd : d < far) (hc : ∀ e ∈ l, 0 ≤ e.2.2) : dg D v ≤ d := by
  induction hw with
  | here => rw [h.st]; exact Int.le_refl _
  | step hu he hf ih =>
    have c := hc _ he
    have h1 := ih (by omega)
    subst hf
    have := h.still _ he (by omega)
    omega
/-- there is but one answer -/
theorem Sh.unique {D' : List Int} (h : Sh N fr l D) (h' : Sh N fr l D') (hends : ∀ e ∈ l, 0 ≤ e.1 ∧ e.1 < N ∧ 0 ≤ e.2.1 ∧ e.2.1 < N) (hc : ∀ e ∈ l, 0 ≤ e.2.2) : D = D' := by
  have key : ∀ D D', Sh N fr l D → Sh N fr l D' → ∀ v, 0 ≤ v → v < N → dg D v ≤ dg D' v := fun D D' h h' v v0 v1 => by
    by_cases hv : dg D' v < far
    · exact h.walk_le hends (h'.wk v v0 v1 hv) hv hc
    · have := (h.lo v v0 v1).2; omega
  have h1 := h.len
  have h2 := h'.len
  refine List.ext_getElem (by omega) fun i a b => ?_
  have e1 := key D D' h h' i (by omega) (by omega)
  have e2 := key D' D h' h i (by omega) (by omega)
  unfold dg at e1 e2
  simp only [Int.toNat_natCast, List.getD_eq_getElem?_getD, List.getElem?_eq_getElem a, List.getElem?_eq_getElem b, Option.getD_some] at e1 e2
  omega
end
/-- how many edges leave those who are done -/
def outs (l : List E) (dn : List Int) : Nat := l.countP fun e => decide (e.1 ∈ dn)
theorem outs_le (l : List E) (dn : List Int) : outs l dn ≤ l.length := List.countP_le_length
theorem outs_nil (l : List E) : outs l [] = 0 := by
  unfold outs
  rw [List.countP_eq_zero]
  intro e _
  simp
theorem outs_cons (l : List E) (dn : List Int) (v : Int) (h : v ∉ dn) : outs l (v :: dn) = outs l dn + l.countP fun e => decide (e.1 = v) := by
  unfold outs
  induction l with
  | nil => rfl
  | cons e r ih =>
    rw [List.countP_cons, List.countP_cons, List.countP_cons, ih]
    by_cases h1 : e.1 = v
    · have h2 : e.1 ∉ dn := by rw [h1]; exact h
      simp [h1, h]
      omega
    · simp [h1]
      omega
theorem start_inv {N fr : Int} {l : List E} {D : List Int} (hl : (D.length : Int) = N) (h0 : dg D fr = 0) (hf : ∀ v, 0 ≤ v → v < N → v ≠ fr → dg D v = far) (hfr : 0 ≤ fr ∧ fr < N) : Inv N fr l D [(0, fr)] [] 0 [] 1 := by
  refine ⟨hl, fun v v0 v1 => ?_, h0, fun v v0 v1 hv => ?_, fun p hp => ?_, by simp, fun v v0 v1 hv _ => ?_, (fun v hv => by cases hv), List.nodup_nil, (fun e _ hd => by cases hd), by simp⟩
  · by_cases e : v = fr
    · rw [e, h0]; unfold far; omega
    · rw [hf v v0 v1 e]; unfold far; omega
  · by_cases e : v = fr
    · rw [e, h0]; exact Wk.here
    · rw [hf v v0 v1 e] at hv; exact absurd hv (Int.lt_irrefl _)
  · rw [List.mem_singleton] at hp
    subst hp
    exact ⟨hfr.1, hfr.2, by simp only; omega, Int.le_refl _, fun h => by cases h⟩
  · by_cases e : v = fr
    · subst e; rw [h0]; simp
    · rw [hf v v0 v1 e] at hv; exact absurd hv (Int.lt_irrefl _)
end Go.Proofs.Ytjebckehmmbkbaa.DijkLaw
