/- Plain facts on the first way that goes on from a beginning: no Go in sight. -/
import Derived.Test.YtjebckehmmbkbaaVYenLaw
namespace Go.Proofs.Ytjebckehmmbkbaa.YenOn
open NetLaw BellLaw DijkLaw WalkLaw YenLaw
set_option linter.unusedSimpArgs false
set_option linter.unusedVariables false
/-- an edge turned round -/
def bk (e : E) : E := (e.2.1, e.1, e.2.2)
/-- may a step be taken? -/
def okU (b nt : List Int) (u v : Int) : Bool := !(decide (v ∈ b) || (decide (u ∈ b.dropLast) || (decide (u = b.getLastD 0) && decide (v ∈ nt))))
def rst (b nt : List Int) (l : List E) : List E := l.filter fun e => okU b nt e.1 e.2.1
theorem rst_fold (b nt : List Int) (u v : Int) (l : List E) (s : Int × Bool) : (rst b nt l).foldl (egS u v) s = if okU b nt u v = true then l.foldl (egS u v) s else s := by
  induction l generalizing s with
  | nil => simp [rst]
  | cons e r ih =>
    unfold rst at ih ⊢
    rw [List.filter_cons]
    by_cases hk : okU b nt e.1 e.2.1 = true
    · rw [if_pos hk, List.foldl_cons, ih, List.foldl_cons]
      by_cases hu : okU b nt u v = true
      · rw [if_pos hu, if_pos hu]
      · rw [if_neg hu, if_neg hu]
        unfold egS
        rw [if_neg]
        rintro ⟨rfl, rfl, _⟩
        exact hu hk
    · rw [if_neg hk, ih, List.foldl_cons]
      by_cases hu : okU b nt u v = true
      · rw [if_pos hu, if_pos hu]
        congr 1
        unfold egS
        rw [if_neg]
        rintro ⟨rfl, rfl, _⟩
        exact hk hu
      · rw [if_neg hu, if_neg hu]
theorem eg_rst (b nt : List Int) (l : List E) (u v : Int) : eg (rst b nt l) u v = if okU b nt u v = true then eg l u v else (0, false) := rst_fold b nt u v l _
theorem okP_cons (l : List E) (p : Int × Int) (ps : List (Int × Int)) : okP l (p :: ps) = ((eg l p.1 p.2).2 && okP l ps) := by simp [okP]
theorem sumP_cons (l : List E) (p : Int × Int) (ps : List (Int × Int)) : sumP l (p :: ps) = (eg l p.1 p.2).1 + sumP l ps := by simp [sumP]
theorem ok_rst {b nt : List Int} {l : List E} {ps : List (Int × Int)} (h : okP (rst b nt l) ps = true) : okP l ps = true ∧ sumP l ps = sumP (rst b nt l) ps ∧ ∀ q ∈ ps, okU b nt q.1 q.2 = true := by
  induction ps with
  | nil => exact ⟨rfl, rfl, by simp⟩
  | cons q ps ih =>
    rw [okP_cons, Bool.and_eq_true] at h
    obtain ⟨h1, h2⟩ := h
    obtain ⟨i1, i2, i3⟩ := ih h2
    have hk : okU b nt q.1 q.2 = true := by
      by_cases hk : okU b nt q.1 q.2 = true
      · exact hk
      · rw [eg_rst, if_neg hk] at h1; cases h1
    have he := eg_rst b nt l q.1 q.2
    rw [if_pos hk] at he
    rw [okP_cons, sumP_cons, sumP_cons, he, i2]
    rw [he] at h1
    exact ⟨by rw [h1, i1]; rfl, rfl, fun x hx => by
      rcases List.mem_cons.1 hx with rfl | hx
      · exact hk
      · exact i3 x hx⟩
theorem rst_ok {b nt : List Int} {l : List E} {ps : List (Int × Int)} (h : okP l ps = true) (hk : ∀ q ∈ ps, okU b nt q.1 q.2 = true) : okP (rst b nt l) ps = true := by
  induction ps with
  | nil => rfl
  | cons q ps ih =>
    rw [okP_cons, Bool.and_eq_true] at h
    rw [okP_cons, eg_rst, if_pos (hk q (by simp)), h.1, ih h.2 (fun x hx => hk x (by simp [hx]))]
    rfl
theorem eg_mem {l : List E} {u v : Int} (h : (eg l u v).2 = true) : ∃ e ∈ l, e.1 = u ∧ e.2.1 = v ∧ eg l u v = (e.2.2, true) := by
  obtain ⟨_, _, b⟩ := WayLaw.eg_fold u v l (0, false)
  unfold eg at h ⊢
  rcases b with b | b
  · rw [b] at h; cases h
  · exact b
/-- what is left, and what it costs to the end -/
structure Rs (n : Nat) (t : Nat) (rs : List E) (D : List Int) : Prop where
  ends : ∀ e ∈ rs, 0 ≤ e.1 ∧ e.1 < n ∧ 0 ≤ e.2.1 ∧ e.2.1 < n
  cost : ∀ e ∈ rs, 1 ≤ e.2.2 ∧ e.2.2 ≤ 10000
  sh : Sh n t (rs.map bk) D
  tn : t < n
section
variable {n t : Nat} {rs : List E} {D : List Int}
theorem Rs.st (h : Rs n t rs D) {e : E} (he : e ∈ rs) (hf : dg D e.2.1 < far) : dg D e.1 ≤ dg D e.2.1 + e.2.2 := h.sh.still (bk e) (List.mem_map.2 ⟨e, he, rfl⟩) hf
/-- a step on a best way -/
def Tg (rs : List E) (D : List Int) (u v : Int) : Prop := ∃ e ∈ rs, e.1 = u ∧ e.2.1 = v ∧ dg D v < far ∧ e.2.2 + dg D v = dg D u
theorem Rs.tight (h : Rs n t rs D) {v : Int} (hv : 0 ≤ v ∧ v < n) (hf : dg D v < far) (hne : v ≠ t) : ∃ x, Tg rs D v x := by
  obtain ⟨e', he', h1, h2, h3⟩ := BellSh.pred h.sh (fun e he => by
    obtain ⟨x, hx, rfl⟩ := List.mem_map.1 he
    have := h.ends x hx
    exact ⟨this.2.2.1, this.2.2.2, this.1, this.2.1⟩) (fun e he => by
    obtain ⟨x, hx, rfl⟩ := List.mem_map.1 he
    exact (h.cost x hx).1) hv hf hne
  obtain ⟨e, he, rfl⟩ := List.mem_map.1 he'
  have hc := (h.cost e he).1
  refine ⟨e.2.1, e, he, h1, rfl, ?_, ?_⟩
  · have : dg D (bk e).1 = dg D e.2.1 := rfl
    have h4 : (bk e).2.2 = e.2.2 := rfl
    omega
  · have : dg D (bk e).1 = dg D e.2.1 := rfl
    have h4 : (bk e).2.2 = e.2.2 := rfl
    omega
/-- the least next place on a best way -/
def nxS (D : List Int) (a : Int) (u : Int) (e : E) : Int := if e.1 = a ∧ dg D e.2.1 < far ∧ e.2.2 + dg D e.2.1 = dg D a then min u e.2.1 else u
def nx (n : Nat) (rs : List E) (D : List Int) (a : Int) : Int := rs.foldl (nxS D a) n
theorem nx_succ (n : Nat) (rs : List E) (D : List Int) (a : Int) (k : Nat) (h : k < rs.length) : nx n (rs.take (k + 1)) D a = nxS D a (nx n (rs.take k) D a) rs[k] := by
  unfold nx
  rw [List.take_succ_eq_append_getElem h, List.foldl_append]
  rfl
theorem nx_fold {a : Int} (r rs : List E) (hr : ∀ e ∈ r, e ∈ rs) (u : Int) : r.foldl (nxS D a) u ≤ u ∧ (r.foldl (nxS D a) u = u ∨ Tg rs D a (r.foldl (nxS D a) u)) ∧ ∀ e ∈ r, e.1 = a → dg D e.2.1 < far → e.2.2 + dg D e.2.1 = dg D a → r.foldl (nxS D a) u ≤ e.2.1 := by
  induction r generalizing u with
  | nil => exact ⟨Int.le_refl _, .inl rfl, by simp⟩
  | cons e r ih =>
    obtain ⟨h1, h2, h3⟩ := ih (fun x hx => hr x (by simp [hx])) (nxS D a u e)
    have hs : nxS D a u e ≤ u := by unfold nxS; split <;> omega
    refine ⟨Int.le_trans h1 hs, ?_, fun x hx p q z => ?_⟩
    · rcases h2 with h2 | h2
      · rw [List.foldl_cons, h2]
        unfold nxS
        split
        · rename_i c
          rcases Int.le_total u e.2.1 with d | d
          · left; omega
          · right
            rw [Int.min_eq_right d]
            exact ⟨e, hr e (by simp), c.1, rfl, c.2.1, c.2.2⟩
        · left; rfl
      · exact .inr h2
    · rcases List.mem_cons.1 hx with rfl | hx
      · refine Int.le_trans h1 ?_
        unfold nxS
        rw [if_pos ⟨p, q, z⟩]
        omega
      · exact h3 x hx p q z
theorem Rs.next (h : Rs n t rs D) {a : Int} (ha : 0 ≤ a ∧ a < n) (hf : dg D a < far) (hne : a ≠ t) : Tg rs D a (nx n rs D a) ∧ (0 ≤ nx n rs D a ∧ nx n rs D a < n) ∧ dg D (nx n rs D a) < dg D a ∧ ∀ v, Tg rs D a v → nx n rs D a ≤ v := by
  obtain ⟨x, e, he, h1, h2, h3, h4⟩ := h.tight ha hf hne
  obtain ⟨a1, b1, c1⟩ := nx_fold (D := D) (a := a) rs rs (fun _ h => h) n
  have hlt := c1 e he h1 (by rw [h2]; exact h3) (by rw [h2]; exact h4)
  have hen := h.ends e he
  have hT : Tg rs D a (nx n rs D a) := by
    rcases b1 with b1 | b1
    · have : rs.foldl (nxS D a) (n : Int) = n := b1
      omega
    · exact b1
  obtain ⟨z, hz, z1, z2, z3, z4⟩ := hT
  have r1 := h.ends z hz
  have r2 := h.cost z hz
  exact ⟨⟨z, hz, z1, z2, z3, z4⟩, by rw [← z2]; exact r1.2.2, by omega, fun v ⟨y, hy, y1, y2, y3, y4⟩ => by
    have := c1 y hy y1 (by rw [y2]; exact y3) (by rw [y2]; exact y4)
    rw [y2] at this
    exact this⟩
theorem Rs.eg_tg (h : Rs n t rs D) {u v : Int} (hT : Tg rs D u v) : eg rs u v = (dg D u - dg D v, true) := by
  obtain ⟨e, he, h1, h2, h3, h4⟩ := hT
  obtain ⟨_, a, b⟩ := WayLaw.eg_fold u v rs (0, false)
  obtain ⟨a1, a2⟩ := a e he h1 h2
  unfold eg
  rcases b with b | ⟨x, hx, x1, x2, x3⟩
  · rw [b] at a1; cases a1
  · rw [x3] at a2 ⊢
    have := h.st hx (by rw [x2]; exact h3)
    rw [x1, x2] at this
    simp only at a2
    have : x.2.2 = dg D u - dg D v := by omega
    rw [this]
/-- goes from place to place by the least next one -/
def Gy (n t : Nat) (rs : List E) (D : List Int) (ps : List (Int × Int)) : Prop := ∀ q ∈ ps, q.2 = nx n rs D q.1 ∧ q.1 ≠ t ∧ (0 ≤ q.1 ∧ q.1 < n) ∧ dg D q.1 < far
theorem Gy.below (h : Rs n t rs D) {r : List Int} {a : Int} (hg : Gy n t rs D (prs (a :: r))) : (∀ x ∈ r, dg D x < dg D a ∧ (0 ≤ x ∧ x < n) ∧ ∃ e ∈ rs, e.2.1 = x) ∧ (a :: r).Nodup := by
  induction r generalizing a with
  | nil => exact ⟨by simp, by simp⟩
  | cons y r ih =>
    rw [prs_cons] at hg
    obtain ⟨g1, g2, g3, g4⟩ := hg (a, y) (by simp)
    simp only at g1 g2 g3 g4
    obtain ⟨n1, n2, n3, _⟩ := h.next g3 g4 g2
    rw [← g1] at n1 n2 n3
    obtain ⟨i1, i2⟩ := ih (a := y) (fun q hq => hg q (by simp [hq]))
    have hall : ∀ x ∈ y :: r, dg D x < dg D a ∧ (0 ≤ x ∧ x < n) ∧ ∃ e ∈ rs, e.2.1 = x := fun x hx => by
      rcases List.mem_cons.1 hx with rfl | hx
      · obtain ⟨e, he, _, e2, _⟩ := n1
        exact ⟨n3, n2, e, he, e2⟩
      · obtain ⟨j1, j2, j3⟩ := i1 x hx
        exact ⟨by omega, j2, j3⟩
    refine ⟨hall, List.nodup_cons.2 ⟨fun hm => ?_, i2⟩⟩
    have := (hall a hm).1
    omega
theorem Gy.cost (h : Rs n t rs D) {r : List Int} {a : Int} (hg : Gy n t rs D (prs (a :: r))) (hl : (a :: r).getLast? = some (t : Int)) : okP rs (prs (a :: r)) = true ∧ wt rs (a :: r) = dg D a := by
  induction r generalizing a with
  | nil =>
    simp at hl
    subst hl
    exact ⟨rfl, h.sh.st.symm⟩
  | cons y r ih =>
    rw [prs_cons] at hg
    obtain ⟨g1, g2, g3, g4⟩ := hg (a, y) (by simp)
    simp only at g1 g2 g3 g4
    obtain ⟨n1, n2, n3, _⟩ := h.next g3 g4 g2
    rw [← g1] at n1
    obtain ⟨i1, i2⟩ := ih (a := y) (fun q hq => hg q (by simp [hq])) (by rwa [List.getLast?_cons_cons] at hl)
    have he := h.eg_tg n1
    unfold wt at i2 ⊢
    rw [prs_cons, okP_cons, sumP_cons, he, i1, i2]
    exact ⟨rfl, by simp only; omega⟩
theorem Rs.pos (h : Rs n t rs D) {ps : List (Int × Int)} (ho : okP rs ps = true) : 0 ≤ sumP rs ps ∧ sumP rs ps ≤ 10000 * (ps.length : Int) := by
  induction ps with
  | nil => exact ⟨Int.le_refl _, by simp [sumP]⟩
  | cons q ps ih =>
    rw [okP_cons, Bool.and_eq_true] at ho
    obtain ⟨e, he, _, _, h3⟩ := eg_mem ho.1
    have := h.cost e he
    have := ih ho.2
    rw [sumP_cons, h3, List.length_cons]
    simp only
    omega
/-- no walk to the end costs less; of those that cost as much the greedy one is first -/
theorem Gy.least (h : Rs n t rs D) {r r' : List Int} {a : Int} (hg : Gy n t rs D (prs (a :: r))) (hl : (a :: r).getLast? = some (t : Int)) (ho : okP rs (prs (a :: r')) = true) (hl' : (a :: r').getLast? = some (t : Int)) (hw : wt rs (a :: r') < far) : dg D a ≤ wt rs (a :: r') ∧ (wt rs (a :: r') = dg D a → r = r' ∨ lexlt r r' = true) := by
  have ge : ∀ (r' : List Int) (a : Int), okP rs (prs (a :: r')) = true → (a :: r').getLast? = some (t : Int) → wt rs (a :: r') < far → dg D a ≤ wt rs (a :: r') := by
    intro r'
    induction r' with
    | nil =>
      intro a _ hl' _
      simp at hl'
      subst hl'
      rw [h.sh.st]
      exact Int.le_refl _
    | cons x r1 ih =>
      intro a ho hl' hw
      unfold wt at hw ih ⊢
      rw [prs_cons, okP_cons, Bool.and_eq_true] at ho
      rw [prs_cons, sumP_cons] at hw ⊢
      obtain ⟨e, he, e1, e2, e3⟩ := eg_mem ho.1
      have hc := h.cost e he
      rw [e3] at hw ⊢
      simp only at hw ⊢
      have hi := ih x ho.2 (by rwa [List.getLast?_cons_cons] at hl') (by omega)
      have hs := h.st he (by rw [e2]; simp only; omega)
      rw [e1, e2] at hs
      simp only at hs
      omega
  refine ⟨ge r' a ho hl' hw, ?_⟩
  induction r generalizing a r' with
  | nil =>
    intro heq
    simp at hl
    subst hl
    cases r' with
    | nil => exact .inl rfl
    | cons x r1 => exact .inr rfl
  | cons y r ih =>
    intro heq
    rw [prs_cons] at hg
    obtain ⟨g1, g2, g3, g4⟩ := hg (a, y) (by simp)
    simp only at g1 g2 g3 g4
    obtain ⟨n1, n2, n3, n4⟩ := h.next g3 g4 g2
    rw [← g1] at n1 n2 n3 n4
    cases r' with
    | nil =>
      simp at hl'
      exact absurd hl' g2
    | cons x r1 =>
      unfold wt at heq hw
      rw [prs_cons, okP_cons, Bool.and_eq_true] at ho
      rw [prs_cons, sumP_cons] at heq hw
      obtain ⟨e, he, e1, e2, e3⟩ := eg_mem ho.1
      have hc := h.cost e he
      rw [e3] at heq hw
      simp only at heq hw e1 e2
      have hl2 : (x :: r1).getLast? = some (t : Int) := by rwa [List.getLast?_cons_cons] at hl'
      have hw2 : wt rs (x :: r1) < far := by unfold wt; omega
      have hge := ge r1 x ho.2 hl2 hw2
      have hxf : dg D e.2.1 < far := by rw [e2]; omega
      have hs := h.st he hxf
      rw [e1, e2] at hs
      have hwx : wt rs (x :: r1) = sumP rs (prs (x :: r1)) := rfl
      have hT : Tg rs D a x := ⟨e, he, e1, e2, by rw [← e2]; exact hxf, by omega⟩
      have hyx := n4 x hT
      rw [lexlt_cons]
      rcases Int.lt_trichotomy y x with hlt | rfl | hgt
      · exact .inr (.inl hlt)
      · rcases ih (a := y) (r' := r1) (fun q hq => hg q (by simp [hq])) (by rwa [List.getLast?_cons_cons] at hl) ho.2 hl2 hw2 (by omega) with k | k
        · exact .inl (by rw [k])
        · exact .inr (.inr ⟨rfl, k⟩)
      · omega
end
section
variable {n s t : Nat} {l : List E} {D : List Int} {b0 nt : List Int} {a : Int}
theorem rst_rs (hg : NetLaw.Good n l) (hc : ∀ e ∈ l, 1 ≤ e.2.2) (ht : t < n) (b nt : List Int) (hD : Sh n t ((rst b nt l).map bk) D) : Rs n t (rst b nt l) D :=
  ⟨fun e he => hg.ends e (List.mem_filter.1 he).1, fun e he => ⟨hc e (List.mem_filter.1 he).1, (hg.cost e (List.mem_filter.1 he).1).2⟩, hD, ht⟩
theorem last_join (b0 : List Int) (a : Int) (r : List Int) {z : Int} (h : (a :: r).getLast? = some z) : (b0 ++ a :: r).getLast? = some z := by
  rw [List.getLast?_append, h]; rfl
/-- a way that goes on is a walk through what is left -/
theorem cd_rst (p : List Int) (hp : Cd n l s t (b0 ++ [a]) (· ∈ nt) p) : ∃ r, p = b0 ++ a :: r ∧ okP (rst (b0 ++ [a]) nt l) (prs (a :: r)) = true ∧ (a :: r).getLast? = some (t : Int) ∧ (prs (a :: r)).length ≤ n := by
  obtain ⟨hs, r, rfl, hr⟩ := hp
  refine ⟨r, by simp, ?_, ?_, ?_⟩
  · have ho := hs.ok
    have hnd := hs.nd
    rw [List.append_assoc, List.singleton_append] at ho hnd
    rw [prs_join, okP_append, Bool.and_eq_true] at ho
    refine rst_ok ho.2 fun q hq => ?_
    rw [List.nodup_append, List.nodup_cons] at hnd
    obtain ⟨d1, ⟨d2, d3⟩, d4⟩ := hnd
    have hmem : q.1 ∈ a :: r ∧ q.2 ∈ r ∧ (q.1 = a → r.head? = some q.2) := by
      obtain ⟨i, hi, rfl⟩ := List.mem_iff_getElem.1 hq
      rw [prs_len] at hi
      have h1 := prs_get (p := a :: r) (k := i) (by simp at hi ⊢; omega)
      rw [List.getElem?_eq_getElem (by rw [prs_len]; exact hi)] at h1
      injection h1 with h1
      rw [h1]
      refine ⟨List.getElem_mem _, by simp, fun e => ?_⟩
      cases i with
      | zero => simp at hi; cases r with
        | nil => simp at hi
        | cons _ _ => rfl
      | succ i =>
        exfalso
        simp only [List.getElem_cons_succ] at e
        exact d2 (by rw [← e]; exact List.getElem_mem _)
    obtain ⟨m1, m2, m3⟩ := hmem
    unfold okU
    rw [Bool.not_eq_true', Bool.or_eq_false_iff, Bool.or_eq_false_iff]
    refine ⟨?_, ?_, ?_⟩
    · rw [decide_eq_false_iff_not, List.mem_append, List.mem_singleton]
      rintro (h | h)
      · exact d4 _ h _ (List.mem_cons_of_mem _ m2) rfl
      · rw [h] at m2; exact d2 m2
    · rw [decide_eq_false_iff_not, List.dropLast_concat]
      intro h
      exact d4 _ h _ m1 rfl
    · rw [Bool.and_eq_false_iff, decide_eq_false_iff_not, decide_eq_false_iff_not]
      by_cases e : q.1 = a
      · exact .inr (fun h => hr _ (m3 e) h)
      · exact .inl (by simpa [List.getLastD_eq_getLast?] using e)
  · have := hs.last
    rw [List.append_assoc, List.singleton_append, List.getLast?_append] at this
    cases h : (a :: r).getLast? with
    | none => simp at h
    | some z => rw [h] at this; simpa using this
  · rw [prs_len]
    have := hs.len
    simp at this ⊢
    omega
theorem on_none (hg : NetLaw.Good n l) (hc : ∀ e ∈ l, 1 ≤ e.2.2) (ht : t < n) (hD : Sh n t ((rst (b0 ++ [a]) nt l).map bk) D) (hf : dg D a = far) (p : List Int) : ¬ Cd n l s t (b0 ++ [a]) (· ∈ nt) p := by
  intro hp
  obtain ⟨r, rfl, h1, h2, h3⟩ := cd_rst p hp
  have hR := rst_rs hg hc ht (b0 ++ [a]) nt hD
  have hw : ∀ (r : List Int) (a : Int), okP (rst (b0 ++ [a]) nt l) (prs (a :: r)) = true → True := fun _ _ _ => trivial
  have key : ∀ (r : List Int) (a' : Int), okP (rst (b0 ++ [a]) nt l) (prs (a' :: r)) = true → (a' :: r).getLast? = some (t : Int) → (prs (a' :: r)).length ≤ n → dg D a' < far := by
    intro r
    induction r with
    | nil =>
      intro a' _ h2 _
      simp at h2
      subst h2
      rw [hD.st]
      decide
    | cons y r ih =>
      intro a' h1 h2 h3
      rw [prs_cons, okP_cons, Bool.and_eq_true] at h1
      rw [prs_cons, List.length_cons] at h3
      obtain ⟨e, he, e1, e2, e3⟩ := eg_mem h1.1
      have hi := ih y h1.2 (by rwa [List.getLast?_cons_cons] at h2) (by omega)
      simp only at e1 e2
      have hs := hR.st he (by rw [e2]; exact hi)
      rw [e1, e2] at hs
      have hd := (hD.wk y (by rw [← e2]; exact (hR.ends e he).2.2.1) (by rw [← e2]; exact (hR.ends e he).2.2.2) hi)
      have hc := hR.cost e he
      -- the rest costs no more than its steps
      have hb : ∀ (r : List Int) (y : Int), okP (rst (b0 ++ [a]) nt l) (prs (y :: r)) = true → (y :: r).getLast? = some (t : Int) → (prs (y :: r)).length ≤ n → dg D y ≤ 10000 * ((prs (y :: r)).length : Int) := by
        intro r
        induction r with
        | nil =>
          intro y _ h2 _
          simp at h2
          subst h2
          rw [hD.st]
          omega
        | cons x r ih =>
          intro y h1 h2 h3
          rw [prs_cons, okP_cons, Bool.and_eq_true] at h1
          rw [prs_cons, List.length_cons] at h3 ⊢
          obtain ⟨e, he, e1, e2, e3⟩ := eg_mem h1.1
          have hi := ih x h1.2 (by rwa [List.getLast?_cons_cons] at h2) (by omega)
          simp only at e1 e2
          have hn := hg.hi
          have hs := hR.st he (by rw [e2]; unfold far; omega)
          rw [e1, e2] at hs
          have hc := hR.cost e he
          omega
      have := hb r y h1.2 (by rwa [List.getLast?_cons_cons] at h2) (by omega)
      have hn := hg.hi
      unfold far
      omega
  have := key r a h1 h2 h3
  omega
theorem on_least (hg : NetLaw.Good n l) (hc : ∀ e ∈ l, 1 ≤ e.2.2) (ht : t < n) (hD : Sh n t ((rst (b0 ++ [a]) nt l).map bk) D) (hs : (b0 ++ [a]).head? = some (s : Int)) (hnd : (b0 ++ [a]).Nodup) (hrg : ∀ v ∈ b0 ++ [a], 0 ≤ v ∧ v < n) (hok : okP l (prs (b0 ++ [a])) = true)
    {r : List Int} (hG : Gy n t (rst (b0 ++ [a]) nt l) D (prs (a :: r))) (hl : (a :: r).getLast? = some (t : Int)) :
    Cd n l s t (b0 ++ [a]) (· ∈ nt) (b0 ++ a :: r) ∧ ∀ p, Cd n l s t (b0 ++ [a]) (· ∈ nt) p → leY l (b0 ++ a :: r) p := by
  have hR := rst_rs hg hc ht (b0 ++ [a]) nt hD
  obtain ⟨g1, g2⟩ := hG.below hR
  obtain ⟨c1, c2⟩ := hG.cost hR hl
  obtain ⟨o1, o2, o3⟩ := ok_rst c1
  have hnb : ∀ x ∈ r, x ∉ b0 ++ [a] := fun x hx => by
    obtain ⟨_, _, e, he, rfl⟩ := g1 x hx
    have := (List.mem_filter.1 he).2
    unfold okU at this
    rw [Bool.not_eq_true', Bool.or_eq_false_iff, decide_eq_false_iff_not] at this
    exact this.1
  refine ⟨⟨⟨?_, last_join b0 a r hl, ?_, fun v hv => ?_, ?_⟩, r, by simp, fun x hx hn => ?_⟩, fun p hp => ?_⟩
  · cases b0 with
    | nil => simpa using hs
    | cons z b0 => simpa using hs
  · rw [show b0 ++ a :: r = (b0 ++ [a]) ++ r by simp, List.nodup_append]
    exact ⟨hnd, (List.nodup_cons.1 g2).2, fun x hx y hy e => hnb y hy (e ▸ hx)⟩
  · rw [show b0 ++ a :: r = (b0 ++ [a]) ++ r by simp] at hv
    rcases List.mem_append.1 hv with h | h
    · exact hrg v h
    · exact (g1 v h).2.1
  · rw [prs_join, okP_append, hok, o1]
    rfl
  · obtain ⟨r1, rfl⟩ := cons_of_head hx
    have h1 := o3 (a, x) (by rw [prs_cons]; simp)
    unfold okU at h1
    rw [Bool.not_eq_true', Bool.or_eq_false_iff, Bool.or_eq_false_iff, Bool.and_eq_false_iff, decide_eq_false_iff_not, decide_eq_false_iff_not, decide_eq_false_iff_not, decide_eq_false_iff_not] at h1
    rcases h1.2.2 with h2 | h2
    · exact h2 (by simp [List.getLastD_eq_getLast?])
    · exact h2 hn
  · obtain ⟨r', rfl, p1, p2, p3⟩ := cd_rst p hp
    obtain ⟨q1, q2, _⟩ := ok_rst p1
    have hn := hg.hi
    have hb := hR.pos p1
    obtain ⟨k1, k2⟩ := hG.least hR hl p1 p2 (by unfold wt far; omega)
    have w1 : wt l (b0 ++ a :: r) = wt l (b0 ++ [a]) + dg D a := by
      rw [← c2]
      unfold wt
      rw [prs_join, sumP_append, o2]
    have w2 : wt l (b0 ++ a :: r') = wt l (b0 ++ [a]) + wt (rst (b0 ++ [a]) nt l) (a :: r') := by
      unfold wt
      rw [prs_join, sumP_append, q2]
    unfold leY ky
    rw [ltY_iff, w1, w2]
    simp only
    by_cases he : wt (rst (b0 ++ [a]) nt l) (a :: r') = dg D a
    · rcases k2 he with e | e
      · exact .inl (by rw [e])
      · exact .inr (.inr ⟨by omega, lexlt_app b0 _ _ (by rw [lexlt_cons]; exact .inr ⟨rfl, e⟩)⟩)
    · exact .inr (.inl (by omega))
end
end Go.Proofs.Ytjebckehmmbkbaa.YenOn
