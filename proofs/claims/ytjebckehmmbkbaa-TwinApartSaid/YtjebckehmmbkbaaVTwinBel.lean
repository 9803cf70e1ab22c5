/- Plain facts on Bellman's passes over free edges and used ones turned round: no Go in sight. -/
import Derived.Test.YtjebckehmmbkbaaVTwinLaw
namespace Go.Proofs.Ytjebckehmmbkbaa.TwinLaw
open NetLaw BellLaw FlowLaw
set_option linter.unusedSimpArgs false
set_option linter.unusedVariables false
/-- how many places are come to -/
def rc (n : Nat) (D : List Int) : Int := rsum n fun i => if dg D (i : Int) < far then 1 else 0
def sm (n : Nat) (D : List Int) : Int := rsum n fun i => dg D (i : Int)
theorem dgs {n : Nat} {D : List Int} (hD : D.length = n) {b : Int} (b0 : 0 ≤ b) (b1 : b < n) (x : Int) (v : Int) (v0 : 0 ≤ v) : dg (D.set b.toNat x) v = if v = b then x else dg D v := dg_set b0 (by omega) v0
theorem rsum_one (n : Nat) : rsum n (fun _ => 1) = n := by
  induction n with
  | zero => rfl
  | succ n ih => rw [rsum, ih]; omega
theorem rc_le (n : Nat) (D : List Int) : rc n D ≤ n := by
  have := rsum_le (f := fun i => if dg D (i : Int) < far then 1 else 0) (g := fun _ => 1) n (fun i _ => by split <;> omega)
  rw [rsum_one] at this
  exact this
theorem rc_set {n : Nat} {D : List Int} (hD : D.length = n) {b : Int} (b0 : 0 ≤ b) (b1 : b < n) {x : Int} (hx : x < far) : rc n (D.set b.toNat x) = if dg D b < far then rc n D else rc n D + 1 := by
  unfold rc
  rw [rsum_upd (f := fun i => if dg D (i : Int) < far then 1 else 0) n b.toNat (by omega) fun j hj hne => by
    have hjb : ¬ (j : Int) = b := by omega
    have := dgs hD b0 b1 x (j : Int) (by omega)
    rw [if_neg hjb] at this
    rw [this]]
  rw [show ((b.toNat : Nat) : Int) = b by omega, dgs hD b0 b1 x b b0, if_pos rfl, if_pos hx]
  split <;> omega
theorem sm_set {n : Nat} {D : List Int} (hD : D.length = n) {b : Int} (b0 : 0 ≤ b) (b1 : b < n) (x : Int) : sm n (D.set b.toNat x) = sm n D + (x - dg D b) := by
  unfold sm
  rw [rsum_upd (f := fun i => dg D (i : Int)) n b.toNat (by omega) fun j hj hne => by rw [dgs hD b0 b1 x j (by omega), if_neg (by omega)]]
  rw [show ((b.toNat : Nat) : Int) = b by omega, dgs hD b0 b1 x b b0, if_pos rfl]
/-- what is given ahead of the passes -/
structure Hp0 (n : Nat) (l : List E) (u : List Bool) (s : Int) (π : Int → Int) : Prop where
  slk : Slk l u π
  root : π s = 0
  rng : ∀ v : Int, 0 ≤ v → v < n → 0 ≤ π v ∧ π v ≤ far
  s0 : 0 ≤ s
  s1 : s < n
  n64 : n ≤ 64
  ends : ∀ e ∈ l, 0 ≤ e.1 ∧ e.1 < n ∧ 0 ≤ e.2.1 ∧ e.2.1 < n
  cost : ∀ e ∈ l, 1 ≤ e.2.2 ∧ e.2.2 ≤ 10000
/-- what holds all along -/
structure TB (n : Nat) (l : List E) (u : List Bool) (s : Int) (π : Int → Int) (D P : List Int) : Prop where
  ld : D.length = n
  lp : P.length = n
  lo : ∀ v : Int, 0 ≤ v → v < n → π v ≤ dg D v ∧ dg D v ≤ far
  root : dg D s = 0
  bd : ∀ v : Int, 0 ≤ v → v < n → dg D v < far → dg D v ≤ 10000 * rc n D
  tree : ∀ v : Int, 0 ≤ v → v < n → dg D v < far → v ≠ s → ∃ k : Nat, k < l.length ∧ dg P v = k ∧ at_ l u k = v ∧ dg D (af l u k) < far ∧ dg D (af l u k) + ac l u k ≤ dg D v
  chain : ∀ v : Int, 0 ≤ v → v < n → dg D v < far → ∃ ks, Chn l u P s v ks
section
variable {n : Nat} {l : List E} {u : List Bool} {s t : Int} {π : Int → Int} {D P : List Int}
theorem Hp0.arc (h : Hp0 n l u s π) {k : Nat} (hk : k < l.length) : (0 ≤ af l u k ∧ af l u k < n) ∧ (0 ≤ at_ l u k ∧ at_ l u k < n) ∧ -10000 ≤ ac l u k ∧ ac l u k ≤ 10000 := by
  obtain ⟨a, b, c, d⟩ := h.ends _ (ed_mem hk)
  obtain ⟨e, f⟩ := h.cost _ (ed_mem hk)
  unfold af at_ ac fr en cpt
  split
  · exact ⟨⟨c, d⟩, ⟨a, b⟩, by omega, by omega⟩
  · exact ⟨⟨a, b⟩, ⟨c, d⟩, by omega, by omega⟩
theorem TB.hi (h : TB n l u s π D P) (h0 : Hp0 n l u s π) {v : Int} (v0 : 0 ≤ v) (v1 : v < n) (hf : dg D v < far) : dg D v ≤ 640000 := by
  have h1 := h.bd v v0 v1 hf
  have h2 := rc_le n D
  have h3 := h0.n64
  omega
theorem rep_dgT {n : Nat} {x v : Int} (v0 : 0 ≤ v) (v1 : v < n) : dg (List.replicate n x) v = x := by
  unfold dg
  rw [List.getD_eq_getElem?_getD, List.getElem?_replicate, if_pos (by omega)]
  rfl
theorem TB.start (h0 : Hp0 n l u s π) : TB n l u s π ((List.replicate n far).set s.toNat 0) (List.replicate n (-1)) := by
  have hl : (List.replicate n far).length = n := by simp
  have hs := h0.s0
  have hs1 := h0.s1
  have hd : ∀ v : Int, 0 ≤ v → v < n → dg ((List.replicate n far).set s.toNat 0) v = if v = s then 0 else far := fun v v0 v1 => by
    rw [dgs hl hs hs1 0 v v0, rep_dgT v0 v1]
  have only : ∀ v : Int, 0 ≤ v → v < n → dg ((List.replicate n far).set s.toNat 0) v < far → v = s := fun v v0 v1 hf => by
    rw [hd v v0 v1] at hf
    split at hf
    · assumption
    · exact absurd hf (Int.lt_irrefl _)
  refine ⟨by simp, by simp, fun v v0 v1 => ?_, by rw [hd s hs hs1, if_pos rfl], fun v v0 v1 hf => ?_, fun v v0 v1 hf hne => absurd (only v v0 v1 hf) hne, fun v v0 v1 hf => ⟨[], by rw [only v v0 v1 hf]; exact .root⟩⟩
  · rw [hd v v0 v1]
    have := h0.rng v v0 v1
    split
    · rename_i e; rw [e, h0.root]; exact ⟨Int.le_refl _, by decide⟩
    · exact ⟨this.2, Int.le_refl _⟩
  · rw [hd v v0 v1, if_pos (only v v0 v1 hf)]
    have h2 : 0 ≤ rc n ((List.replicate n far).set s.toNat 0) := rsum_nonneg _ fun i _ => by split <;> omega
    omega
/-- one arc gives way -/
theorem TB.step (h : TB n l u s π D P) (h0 : Hp0 n l u s π) {k : Nat} (hk : k < l.length) (h1 : dg D (af l u k) < far) (h2 : dg D (af l u k) + ac l u k < dg D (at_ l u k)) :
    TB n l u s π (D.set (at_ l u k).toNat (dg D (af l u k) + ac l u k)) (P.set (at_ l u k).toNat k) ∧ sm n (D.set (at_ l u k).toNat (dg D (af l u k) + ac l u k)) < sm n D := by
  obtain ⟨⟨a0, a1⟩, ⟨b0, b1⟩, c0, c1⟩ := h0.arc hk
  have hsl := h0.slk k hk
  have hpa := (h.lo _ a0 a1).1
  have hb := h.lo _ b0 b1
  have hai := h.hi h0 a0 a1 h1
  generalize hA : af l u k = a at *
  generalize hB : at_ l u k = b at *
  generalize hC : ac l u k = c at *
  have hxf : dg D a + c < far := by unfold far; omega
  have hbs : b ≠ s := fun e => by
    rw [e, h.root] at h2
    rw [e, h0.root] at hsl
    omega
  have hd := fun v v0 => dgs h.ld b0 b1 (dg D a + c) v v0
  have hp := fun v v0 => dgs h.lp b0 b1 (k : Int) v v0
  have hrc := rc_set h.ld b0 b1 hxf
  have hmono : rc n D ≤ rc n (D.set b.toNat (dg D a + c)) := by rw [hrc]; split <;> omega
  have hba := h.bd a a0 a1 h1
  refine ⟨⟨by rw [List.length_set]; exact h.ld, by rw [List.length_set]; exact h.lp, fun v v0 v1 => ?_, by rw [hd s h0.s0, if_neg (fun e => hbs e.symm)]; exact h.root, fun v v0 v1 hf => ?_, fun v v0 v1 hf hne => ?_, fun v v0 v1 hf => ?_⟩, by rw [sm_set h.ld b0 b1]; omega⟩
  · rw [hd v v0]
    split
    · rename_i e; subst e; exact ⟨by omega, by omega⟩
    · exact h.lo v v0 v1
  · rw [hd v v0] at hf ⊢
    split
    · rename_i e
      subst e
      rw [hrc]
      split
      · rename_i hfb
        have := h.bd v v0 v1 hfb
        omega
      · omega
    · rename_i e
      rw [if_neg e] at hf
      have := h.bd v v0 v1 hf
      omega
  · rw [hd v v0] at hf
    by_cases e : v = b
    · subst e
      refine ⟨k, hk, by rw [hp v v0, if_pos rfl], hB, ?_, ?_⟩
      · rw [hA, hd a a0]
        split
        · exact hxf
        · exact h1
      · rw [hA, hC, hd a a0, hd v v0, if_pos rfl]
        split
        · rename_i e2
          subst e2
          omega
        · omega
    · rw [if_neg e] at hf
      obtain ⟨j, j1, j2, j3, j4, j5⟩ := h.tree v v0 v1 hf hne
      obtain ⟨⟨x0, x1⟩, _⟩ := h0.arc j1
      refine ⟨j, j1, by rw [hp v v0, if_neg e]; exact j2, j3, ?_, ?_⟩
      · rw [hd _ x0]
        split
        · exact hxf
        · exact j4
      · rw [hd _ x0, hd v v0, if_neg e]
        split
        · rename_i e2
          rw [e2] at j5
          omega
        · exact j5
  · have hfar : ∀ x ks, Chn l u P s x ks → 0 ≤ x → x < n → dg D x < far → dg D x - π x ≤ dg D a - π a → Chn l u (P.set b.toNat k) s x ks := by
      intro x ks hc
      induction hc with
      | root => intro _ _ _ _; exact .root
      | @link y j js hne hj hjl hat hc ih =>
        intro y0 y1 hy hr
        have hyb : y ≠ b := fun e => by subst e; omega
        obtain ⟨i, i1, i2, i3, i4, i5⟩ := h.tree y y0 y1 hy hne
        rw [hj] at i2
        obtain rfl : j = i := by omega
        obtain ⟨⟨x0, x1⟩, _⟩ := h0.arc hjl
        have hs2 := h0.slk j hjl
        rw [hat] at hs2
        exact .link hne (by rw [hp y y0, if_neg hyb]; exact hj) hjl hat (ih x0 x1 i4 (by omega))
    obtain ⟨ka, hka⟩ := h.chain a a0 a1 h1
    have hcb : Chn l u (P.set b.toNat k) s b (k :: ka) := .link hbs (by rw [hp b b0, if_pos rfl]) hk hB (by rw [hA]; exact hfar a ka hka a0 a1 h1 (Int.le_refl _))
    rw [hd v v0] at hf
    by_cases e : v = b
    · exact ⟨_, by rw [e]; exact hcb⟩
    · rw [if_neg e] at hf
      obtain ⟨kv, hkv⟩ := h.chain v v0 v1 hf
      have key : ∀ x ks, Chn l u P s x ks → 0 ≤ x → x < n → dg D x < far → ∃ ks', Chn l u (P.set b.toNat k) s x ks' := by
        intro x ks hc
        induction hc with
        | root => intro _ _ _; exact ⟨[], .root⟩
        | @link y j js hne hj hjl hat hc ih =>
          intro y0 y1 hy
          by_cases hyb : y = b
          · exact ⟨_, by rw [hyb]; exact hcb⟩
          · obtain ⟨i, i1, i2, i3, i4, i5⟩ := h.tree y y0 y1 hy hne
            rw [hj] at i2
            obtain rfl : j = i := by omega
            obtain ⟨⟨x0, x1⟩, _⟩ := h0.arc hjl
            obtain ⟨ks', h'⟩ := ih x0 x1 i4
            exact ⟨_, .link hne (by rw [hp y y0, if_neg hyb]; exact hj) hjl hat h'⟩
      exact key v kv hkv v0 v1 hf
/-- nothing gives way any longer -/
def Fin (l : List E) (u : List Bool) (D : List Int) : Prop := ∀ k, k < l.length → ¬ (dg D (af l u k) < far ∧ dg D (af l u k) + ac l u k < dg D (at_ l u k))
theorem TB.closed (h : TB n l u s π D P) (h0 : Hp0 n l u s π) (hf : Fin l u D) {k : Nat} (hk : k < l.length) (h1 : dg D (af l u k) < far) : dg D (at_ l u k) ≤ dg D (af l u k) + ac l u k ∧ dg D (at_ l u k) < far := by
  obtain ⟨⟨a0, a1⟩, ⟨b0, b1⟩, c0, c1⟩ := h0.arc hk
  have hai := h.hi h0 a0 a1 h1
  have h2 := hf k hk
  have h3 : dg D (at_ l u k) ≤ dg D (af l u k) + ac l u k := by
    refine Classical.byContradiction fun hc => h2 ⟨h1, by omega⟩
  exact ⟨h3, by unfold far; omega⟩
/-- the end is not come to: no more can go -/
theorem TB.none (h : TB n l u s π D P) (h0 : Hp0 n l u s π) (hf : Fin l u D) (t0 : 0 ≤ t) (t1 : t < n) (ht : dg D t = far) {v v' : Int} {u' : List Bool} (hu : BF l s t u v) (hu' : BF l s t u' v') : v' ≤ v := by
  refine cut_le hu hu' (S := fun x => (0 ≤ x ∧ x < n) ∧ dg D x < far) ⟨⟨h0.s0, h0.s1⟩, by rw [h.root]; decide⟩ (fun hc => by rw [ht] at hc; exact Int.lt_irrefl _ hc.2) fun i hi hs => ?_
  obtain ⟨_, hb, _⟩ := h0.arc hi
  exact ⟨hb, (h.closed h0 hf hi hs.2).2⟩
/-- along the way back all is tight -/
theorem TB.tight (h : TB n l u s π D P) (h0 : Hp0 n l u s π) (hf : Fin l u D) {x : Int} {ks : List Nat} (hc : Chn l u P s x ks) : 0 ≤ x → x < n → dg D x < far → ∀ k ∈ ks, dg D (af l u k) < far ∧ dg D (at_ l u k) < far ∧ dg D (at_ l u k) = dg D (af l u k) + ac l u k := by
  induction hc with
  | root => intro _ _ _ k hk; cases hk
  | @link y j js hne hj hjl hat hc ih =>
    intro y0 y1 hy k hk
    obtain ⟨i, i1, i2, i3, i4, i5⟩ := h.tree y y0 y1 hy hne
    rw [hj] at i2
    obtain rfl : j = i := by omega
    obtain ⟨⟨x0, x1⟩, _⟩ := h0.arc hjl
    rcases List.mem_cons.1 hk with rfl | hk
    · have h3 := (h.closed h0 hf hjl i4).1
      rw [hat] at h3 ⊢
      exact ⟨i4, hy, by omega⟩
    · exact ih x0 x1 i4 k hk
/-- the heights of now serve for what is used then -/
theorem TB.next (h : TB n l u s π D P) (h0 : Hp0 n l u s π) (hf : Fin l u D) (t0 : 0 ≤ t) (t1 : t < n) (ht : dg D t < far) (hul : u.length = l.length) {ks : List Nat} (hc : Chn l u P s t ks) (hus : ∀ i, i < l.length → ub u i = true → dg D (en l i) < far) : Hp0 n l (flips u ks) s (dg D) := by
  refine ⟨fun i hi => ?_, h.root, fun v v0 v1 => ⟨by have := (h.lo v v0 v1).1; have := (h0.rng v v0 v1).1; omega, (h.lo v v0 v1).2⟩, h0.s0, h0.s1, h0.n64, h0.ends, h0.cost⟩
  have hfl := flips_ub ks hc.nodup u (fun k hk => by have := hc.lt k hk; omega) i
  obtain ⟨⟨a0, a1⟩, ⟨b0, b1⟩, _⟩ := h0.arc hi
  by_cases hm : i ∈ ks
  · rw [if_pos hm] at hfl
    obtain ⟨e1, e2, e3⟩ := h.tight h0 hf hc t0 t1 ht i hm
    unfold at_ af ac at e3 ⊢
    rw [hfl]
    cases hb : ub u i with
    | true => rw [hb] at e3; simp at e3 ⊢; omega
    | false => rw [hb] at e3; simp at e3 ⊢; omega
  · rw [if_neg hm] at hfl
    have e : at_ l (flips u ks) i = at_ l u i ∧ af l (flips u ks) i = af l u i ∧ ac l (flips u ks) i = ac l u i := by
      unfold at_ af ac; rw [hfl]; exact ⟨rfl, rfl, rfl⟩
    rw [e.1, e.2.1, e.2.2]
    by_cases hlt : dg D (af l u i) < far
    · exact (h.closed h0 hf hi hlt).1
    · have hA := (h.lo _ a0 a1).2
      have hB := (h.lo _ b0 b1).2
      have hcst := h0.cost _ (ed_mem hi)
      cases hb : ub u i with
      | true =>
        have := hus i hi hb
        unfold af at hlt
        rw [if_pos hb] at hlt
        exact absurd this hlt
      | false =>
        have : ac l u i = cpt l i := by unfold ac; rw [if_neg (by rw [hb]; decide)]
        rw [this]
        unfold cpt
        omega
/-- each used edge is come back to from the end -/
def Bk (l : List E) (u : List Bool) (t : Int) : Prop := ∀ S : Int → Prop, S t → (∀ i, i < l.length → S (af l u i) → S (at_ l u i)) → ∀ i, i < l.length → ub u i = true → S (en l i)
theorem Bk.zero (l : List E) (t : Int) : Bk l (List.replicate l.length false) t := fun S _ _ i _ hu => by rw [ub_rep] at hu; cases hu
theorem Bk.first {ks : List Nat} (hc : Chn l (List.replicate l.length false) P s t ks) : Bk l (flips (List.replicate l.length false) ks) t := by
  intro S hS hcl
  have hfl := flips_ub ks hc.nodup (List.replicate l.length false) (fun k hk => by simpa using hc.lt k hk)
  have key : ∀ x js, Chn l (List.replicate l.length false) P s x js → (∀ k ∈ js, k ∈ ks) → S x → ∀ k ∈ js, S (en l k) := by
    intro x js hc2
    induction hc2 with
    | root => intro _ _ k hk; cases hk
    | @link y j js hne hj hjl hat hc2 ih =>
      intro hsub hy k hk
      have hbj : ub (flips (List.replicate l.length false) ks) j = true := by
        rw [hfl, if_pos (hsub j (List.mem_cons_self ..)), ub_rep]; rfl
      have ha : at_ l (List.replicate l.length false) j = en l j ∧ af l (List.replicate l.length false) j = fr l j := by
        unfold at_ af; rw [ub_rep]; exact ⟨rfl, rfl⟩
      have hstep := hcl j hjl
      unfold af at_ at hstep
      rw [if_pos hbj, if_pos hbj] at hstep
      rw [ha.1] at hat
      rcases List.mem_cons.1 hk with rfl | hk
      · rw [hat]; exact hy
      · rw [ha.2] at ih
        exact ih (fun i hi => hsub i (List.mem_cons_of_mem _ hi)) (hstep (by rw [hat]; exact hy)) k hk
  intro i hi hu
  rw [hfl] at hu
  by_cases hm : i ∈ ks
  · exact key t ks hc (fun _ h => h) hS i hm
  · rw [if_neg hm, ub_rep] at hu
    cases hu
theorem TB.used (h : TB n l u s π D P) (h0 : Hp0 n l u s π) (hf : Fin l u D) (hb : Bk l u t) (t0 : 0 ≤ t) (t1 : t < n) (ht : dg D t < far) : ∀ i, i < l.length → ub u i = true → dg D (en l i) < far :=
  hb (fun x => dg D x < far) ht fun i hi hs => (h.closed h0 hf hi hs).2
end
end Go.Proofs.Ytjebckehmmbkbaa.TwinLaw
