/- Plain facts on forests: ranks of pairs, and Kruskal's choice. No Go in sight. -/
import Derived.Test.YtdpjbjgecmnmnaaUnionOneLaw
namespace Go.Proofs.Ytdpjbjgecmnmnaa.SpanLaw
open Go.Proofs.Ytdpjbjgecmnmnaa UnionLaw Go.Proofs.Ytdpjbjgecmnmnaa.Union
set_option linter.unusedSimpArgs false
set_option linter.unusedVariables false
abbrev P2 := Nat × Nat
def jn (f : Nat → Nat) (p : P2) : Nat → Nat := UnionLaw.upd f (max (root f p.1) (root f p.2)) (min (root f p.1) (root f p.2))
/-- groups of pairs -/
def grp (l : List P2) : Nat → Nat := l.foldl jn (fun i => i)
theorem grp_snoc (l : List P2) (p : P2) : grp (l ++ [p]) = jn (grp l) p := by simp [grp]
theorem snoc_ind {α : Type} {P : List α → Prop} (h0 : P []) (h1 : ∀ l x, P l → P (l ++ [x])) (l : List α) : P l := by
  have key : ∀ n (l : List α), l.length = n → P l := by
    intro n
    induction n with
    | zero => intro l hl; rw [List.eq_nil_of_length_eq_zero hl]; exact h0
    | succ n ih =>
      intro l hl
      have hne : l ≠ [] := fun e => by rw [e] at hl; simp at hl
      rw [← List.dropLast_concat_getLast hne]
      exact h1 _ _ (ih _ (by simp [hl]))
  exact key _ l rfl
theorem grp_all (l : List P2) : (∀ i, grp l i ≤ i) ∧ Inv l (grp l) := by
  refine snoc_ind (P := fun l => (∀ i, grp l i ≤ i) ∧ Inv l (grp l)) ⟨fun i => Nat.le_refl _, inv_nil⟩ (fun l p ih => ?_) l
  rw [grp_snoc]
  exact ⟨upd_le ih.1 (by omega), ih.2.join ih.1 p.1 p.2⟩
theorem grp_le (l : List P2) : ∀ i, grp l i ≤ i := (grp_all l).1
theorem grp_inv (l : List P2) : Inv l (grp l) := (grp_all l).2
/-- joined by pairs -/
def cn (l : List P2) (i j : Nat) : Prop := root (grp l) i = root (grp l) j
theorem cn_of {l : List P2} {f : Nat → Nat} (hf : ∀ i, f i ≤ i) (h : Inv l f) (i j : Nat) : root f i = root f j ↔ cn l i j := by
  have e := Inv.same hf (grp_le l) h (grp_inv l) (fun p hp => .inl hp) (fun p hp => .inl hp)
  unfold cn
  rw [e, e]
theorem cn_mem {l : List P2} {p : P2} (h : p ∈ l) : cn l p.1 p.2 := (grp_inv l).1 p h
theorem cn_mono {l l' : List P2} (hs : ∀ p ∈ l, p ∈ l') {i j : Nat} (h : cn l i j) : cn l' i j := by
  have k := (grp_inv l).2 (root (grp l')) (fun p hp => (grp_inv l').1 p (hs p hp))
  unfold cn at h ⊢
  rw [← k i, ← k j, h]
/-- what joins no more than another does -/
theorem cn_sub {l l' : List P2} (hs : ∀ p ∈ l, cn l' p.1 p.2) {i j : Nat} (h : cn l i j) : cn l' i j := by
  have k := (grp_inv l).2 (root (grp l')) (fun p hp => hs p hp)
  unfold cn at h ⊢
  rw [← k i, ← k j, h]
theorem cn_symm {l : List P2} {i j : Nat} (h : cn l i j) : cn l j i := Eq.symm h
theorem cn_trans {l : List P2} {i j k : Nat} (h : cn l i j) (h' : cn l j k) : cn l i k := Eq.trans h h'
/-- one pair more joins two only by joining its own -/
theorem cn_snoc {l : List P2} {p : P2} {i j : Nat} (h : cn (l ++ [p]) i j) : cn l i j ∨ (cn l i p.1 ∧ cn l j p.2) ∨ (cn l i p.2 ∧ cn l j p.1) := by
  have k := root_more (grp_le l) (grp_le (l ++ [p])) (grp_inv l) (a := p.1) (b := p.2) (grp_inv (l ++ [p]))
  unfold cn at h ⊢
  rw [k, k] at h
  generalize root (grp l) i = a at *
  generalize root (grp l) j = b at *
  generalize root (grp l) p.1 = c at *
  generalize root (grp l) p.2 = d at *
  split at h <;> split at h <;> omega
/-- how many joinings -/
def rk (n : Nat) (l : List P2) : Nat := n - many (grp l) n
def InB (n : Nat) (l : List P2) : Prop := ∀ p ∈ l, p.1 < n ∧ p.2 < n
theorem many_of {l : List P2} {f : Nat → Nat} (n : Nat) (hf : ∀ i, f i ≤ i) (h : Inv l f) : many f n = n - rk n l := by
  have := (out_same n hf (grp_le l) h (grp_inv l)).2
  have := many_le (grp l) n
  unfold rk
  omega
theorem rk_nil (n : Nat) : rk n [] = 0 := by
  have h : many (grp []) n = n := by
    induction n with
    | zero => rfl
    | succ n ih => rw [many_succ, ih, if_pos (root_fix rfl)]
  unfold rk
  omega
theorem rk_le (n : Nat) (l : List P2) : rk n l ≤ n := Nat.sub_le _ _
theorem rk_yes {n : Nat} {l : List P2} {p : P2} (h : cn l p.1 p.2) : rk n (l ++ [p]) = rk n l := by
  have := (out_eq n (grp_le l) (grp_le (l ++ [p])) (grp_inv l) (a := p.1) (b := p.2) (grp_inv (l ++ [p])) h).2
  unfold rk
  omega
theorem rk_no {n : Nat} {l : List P2} {p : P2} (hp : p.1 < n ∧ p.2 < n) (h : ¬ cn l p.1 p.2) : rk n (l ++ [p]) = rk n l + 1 := by
  have := many_less n hp.1 hp.2 (grp_le l) (grp_le (l ++ [p])) (grp_inv l) (a := p.1) (b := p.2) (grp_inv (l ++ [p])) h
  have := many_le (grp l) n
  unfold rk
  omega
theorem rk_same {n : Nat} {l l' : List P2} (h : ∀ p, p ∈ l ↔ p ∈ l') : rk n l = rk n l' := by
  have e := Inv.same (grp_le l) (grp_le l') (grp_inv l) (grp_inv l') (fun p hp => .inl ((h p).1 hp)) (fun p hp => .inl ((h p).2 hp))
  have : many (grp l) n = many (grp l') n := by
    unfold many
    congr 1
    exact List.filter_congr fun i _ => by rw [e]
  unfold rk
  rw [this]
theorem rk_app {n : Nat} {l r : List P2} (hr : InB n r) : rk n l ≤ rk n (l ++ r) ∧ rk n (l ++ r) ≤ rk n l + r.length := by
  revert hr
  refine snoc_ind (P := fun r => InB n r → rk n l ≤ rk n (l ++ r) ∧ rk n (l ++ r) ≤ rk n l + r.length) (fun _ => by simp) (fun r p ih hr => ?_) r
  obtain ⟨h1, h2⟩ := ih (fun q hq => hr q (List.mem_append_left _ hq))
  rw [← List.append_assoc, List.length_append, List.length_singleton]
  by_cases hc : cn (l ++ r) p.1 p.2
  · rw [rk_yes hc]; omega
  · rw [rk_no (hr p (by simp)) hc]; omega
theorem rk_len {n : Nat} {l : List P2} (h : InB n l) : rk n l ≤ l.length := by
  have := (rk_app (n := n) (l := []) h).2
  rw [rk_nil] at this
  simpa using this
/-- what joins no more has no greater rank -/
theorem rk_sub {n : Nat} {l l' : List P2} (hl : InB n l) (hl' : InB n l') (hs : ∀ p ∈ l, cn l' p.1 p.2) : rk n l ≤ rk n l' := by
  have h1 : rk n (l' ++ l) = rk n l' := by
    clear hl
    revert hs
    refine snoc_ind (P := fun l => (∀ p ∈ l, cn l' p.1 p.2) → rk n (l' ++ l) = rk n l') (fun _ => by simp) (fun r p ih hs => ?_) l
    rw [← List.append_assoc, rk_yes (cn_mono (fun q hq => List.mem_append_left _ hq) (hs p (by simp)))]
    exact ih fun q hq => hs q (List.mem_append_left _ hq)
  have h2 : rk n (l' ++ l) = rk n (l ++ l') := rk_same fun p => by simp [or_comm]
  have h3 := (rk_app (n := n) (l := l) hl').1
  omega
/-- each pair joins something: no fewer do -/
def Ind (n : Nat) (l : List P2) : Prop := rk n l = l.length
theorem Ind.part {n : Nat} {l a b : List P2} (h : Ind n l) (hl : InB n l) (hp : (a ++ b).Perm l) : Ind n a := by
  have ha : InB n a := fun p hp' => hl p (hp.mem_iff.1 (List.mem_append_left _ hp'))
  have hb : InB n b := fun p hp' => hl p (hp.mem_iff.1 (List.mem_append_right _ hp'))
  have h1 := (rk_app (n := n) (l := a) hb).2
  have h2 : rk n (a ++ b) = rk n l := rk_same fun p => hp.mem_iff
  have h3 := rk_len ha
  have h4 := hp.length_eq
  rw [List.length_append] at h4
  unfold Ind at *
  omega
theorem Ind.snoc {n : Nat} {l : List P2} {p : P2} (h : Ind n l) (hp : p.1 < n ∧ p.2 < n) (hc : ¬ cn l p.1 p.2) : Ind n (l ++ [p]) := by
  unfold Ind at *
  rw [rk_no hp hc, h]
  simp
theorem ind_nil (n : Nat) : Ind n [] := rk_nil n
theorem Ind.not {n : Nat} {l : List P2} {p : P2} (h : Ind n (l ++ [p])) (hl : InB n (l ++ [p])) : ¬ cn l p.1 p.2 := fun hc => by
  have h1 := rk_yes (n := n) hc
  have h2 := rk_len (n := n) (l := l) (fun q hq => hl q (List.mem_append_left _ hq))
  unfold Ind at h
  rw [List.length_append, List.length_singleton] at h
  omega

/-- Kruskal's running: es the ends of an edge, co its cost, dn who was looked at, out who was taken, cur the last cost -/
structure KR (n : Nat) (es : Nat → P2) (co : Nat → Int) (dn out : List Nat) (cur : Int) : Prop where
  sub : ∀ i ∈ out, i ∈ dn
  nd : dn.Nodup
  ond : out.Nodup
  ind : Ind n (out.map es)
  le : ∀ i ∈ dn, co i ≤ cur
  cov : ∀ i ∈ dn, cn ((out.filter fun j => decide (co j ≤ co i)).map es) (es i).1 (es i).2
  srt : out.Pairwise fun a b => co a ≤ co b
section
variable {n : Nat} {es : Nat → P2} {co : Nat → Int} {dn out : List Nat} {cur : Int}
theorem KR.start (n : Nat) (es : Nat → P2) (co : Nat → Int) (cur : Int) : KR n es co [] [] cur :=
  ⟨fun i h => h, List.nodup_nil, List.nodup_nil, ind_nil n, (fun i h => by cases h), (fun i h => by cases h), List.Pairwise.nil⟩
theorem filter_all (h : ∀ i ∈ out, co i ≤ cur) {c : Int} (hc : cur ≤ c) : (out.filter fun j => decide (co j ≤ c)) = out := by
  rw [List.filter_eq_self]
  intro i hi
  have := h i hi
  simp only [decide_eq_true_eq]
  omega
theorem KR.skip (h : KR n es co dn out cur) {i : Nat} (hi : i ∉ dn) (hc : cur ≤ co i) (hj : cn (out.map es) (es i).1 (es i).2) : KR n es co (dn ++ [i]) out (co i) := by
  refine ⟨fun j hj => List.mem_append_left _ (h.sub j hj), ?_, h.ond, h.ind, fun j hj => ?_, fun j hj' => ?_, h.srt⟩
  · rw [List.nodup_append]
    exact ⟨h.nd, by simp, fun a ha b hb e => by rw [List.mem_singleton] at hb; subst hb e; exact hi ha⟩
  · rcases List.mem_append.1 hj with h1 | h1
    · have := h.le j h1; omega
    · rw [List.mem_singleton] at h1; subst h1; exact Int.le_refl _
  · rcases List.mem_append.1 hj' with h1 | h1
    · exact h.cov j h1
    · rw [List.mem_singleton] at h1
      subst h1
      rw [filter_all (fun k hk => h.le k (h.sub k hk)) hc]
      exact hj
theorem KR.take (h : KR n es co dn out cur) {i : Nat} (hi : i ∉ dn) (hc : cur ≤ co i) (hb : (es i).1 < n ∧ (es i).2 < n) (hj : ¬ cn (out.map es) (es i).1 (es i).2) : KR n es co (dn ++ [i]) (out ++ [i]) (co i) := by
  refine ⟨fun j hj => ?_, ?_, ?_, ?_, fun j hj => ?_, fun j hj' => ?_, ?_⟩
  · rcases List.mem_append.1 hj with h1 | h1
    · exact List.mem_append_left _ (h.sub j h1)
    · exact List.mem_append_right _ h1
  · rw [List.nodup_append]
    exact ⟨h.nd, by simp, fun a ha b hb e => by rw [List.mem_singleton] at hb; subst hb e; exact hi ha⟩
  · rw [List.nodup_append]
    exact ⟨h.ond, by simp, fun a ha b hb e => by rw [List.mem_singleton] at hb; subst hb e; exact hi (h.sub _ ha)⟩
  · rw [List.map_append, List.map_singleton]
    exact h.ind.snoc hb hj
  · rcases List.mem_append.1 hj with h1 | h1
    · have := h.le j h1; omega
    · rw [List.mem_singleton] at h1; subst h1; exact Int.le_refl _
  · rcases List.mem_append.1 hj' with h1 | h1
    · refine cn_mono (fun p hp => ?_) (h.cov j h1)
      rw [List.filter_append, List.map_append]
      exact List.mem_append_left _ hp
    · rw [List.mem_singleton] at h1
      subst h1
      refine cn_mem (p := ((es j).1, (es j).2)) ?_
      rw [List.mem_map]
      exact ⟨j, by simp, rfl⟩
  · rw [List.pairwise_append]
    refine ⟨h.srt, by simp, fun a ha b hb => ?_⟩
    rw [List.mem_singleton] at hb
    subst hb
    have := h.le a (h.sub a ha)
    omega
/-- all that was looked at is joined -/
theorem KR.all (h : KR n es co dn out cur) : ∀ i ∈ dn, cn (out.map es) (es i).1 (es i).2 := fun i hi => cn_mono (fun p hp => by
  rw [List.mem_map] at hp ⊢
  obtain ⟨j, hj, rfl⟩ := hp
  exact ⟨j, (List.mem_filter.1 hj).1, rfl⟩) (h.cov i hi)
theorem inb_map {l : List Nat} (hb : ∀ i ∈ l, (es i).1 < n ∧ (es i).2 < n) : InB n (l.map es) := fun p hp => by
  rw [List.mem_map] at hp
  obtain ⟨j, hj, rfl⟩ := hp
  exact hb j hj
/-- no others that each join something are more, of any cost -/
theorem KR.dom (h : KR n es co dn out cur) (hb : ∀ i ∈ dn, (es i).1 < n ∧ (es i).2 < n) {ot : List Nat} (hs : ∀ i ∈ ot, i ∈ dn) (hi : Ind n (ot.map es)) (c : Int) :
    (ot.filter fun j => decide (co j ≤ c)).length ≤ (out.filter fun j => decide (co j ≤ c)).length := by
  have hbo : InB n (ot.map es) := inb_map fun i hi => hb i (hs i hi)
  have h1 : Ind n ((ot.filter fun j => decide (co j ≤ c)).map es) := by
    refine hi.part hbo (b := (ot.filter fun j => !decide (co j ≤ c)).map es) ?_
    rw [← List.map_append]
    exact (List.filter_append_perm _ ot).map es
  have h2 : rk n ((ot.filter fun j => decide (co j ≤ c)).map es) ≤ rk n ((out.filter fun j => decide (co j ≤ c)).map es) := by
    refine rk_sub (inb_map fun i hi => hb i (hs i (List.mem_filter.1 hi).1)) (inb_map fun i hi => hb i (h.sub i (List.mem_filter.1 hi).1)) fun p hp => ?_
    rw [List.mem_map] at hp
    obtain ⟨i, hi, rfl⟩ := hp
    obtain ⟨h3, h4⟩ := List.mem_filter.1 hi
    rw [decide_eq_true_eq] at h4
    refine cn_mono (fun q hq => ?_) (h.cov i (hs i h3))
    rw [List.mem_map] at hq ⊢
    obtain ⟨j, hj, rfl⟩ := hq
    obtain ⟨h5, h6⟩ := List.mem_filter.1 hj
    rw [decide_eq_true_eq] at h6
    exact ⟨j, List.mem_filter.2 ⟨h5, by rw [decide_eq_true_eq]; omega⟩, rfl⟩
  have h3 := rk_len (n := n) (l := (out.filter fun j => decide (co j ≤ c)).map es) (inb_map fun i hi => hb i (h.sub i (List.mem_filter.1 hi).1))
  unfold Ind at h1
  rw [List.length_map] at h1 h3
  omega
end
/-- sums, by how many there are of each cost -/
def cs (co : Nat → Int) (l : List Nat) : Int := (l.map co).sum
theorem layer (co : Nat → Int) (l : List Nat) (M : Nat) (h : ∀ i ∈ l, -(M : Int) ≤ co i ∧ co i ≤ M) : cs co l = (l.length : Int) * M - (((List.range (2 * M)).map fun (c : Nat) => ((l.filter fun j => decide (co j ≤ (c : Int) - M)).length : Int)).sum) := by
  induction l with
  | nil =>
    have : ∀ n : Nat, ((List.range n).map fun (c : Nat) => (0 : Int)).sum = 0 := by
      intro n
      induction n with
      | zero => rfl
      | succ n ih => rw [List.range_succ, List.map_append, List.sum_append, ih]; rfl
    simp only [cs, List.filter_nil, List.length_nil, List.map_nil, List.sum_nil]
    have e : ((List.range (2 * M)).map fun (c : Nat) => ((0 : Nat) : Int)).sum = 0 := this _
    rw [e]; simp
  | cons x r ih =>
    obtain ⟨x0, x1⟩ := h x (List.mem_cons_self ..)
    have ih := ih fun i hi => h i (List.mem_cons_of_mem _ hi)
    have e1 : cs co (x :: r) = co x + cs co r := by simp [cs]
    have key : ∀ k : Nat, ((List.range k).map fun (c : Nat) => (((x :: r).filter fun j => decide (co j ≤ (c : Int) - M)).length : Int)).sum = ((List.range k).map fun (c : Nat) => ((r.filter fun j => decide (co j ≤ (c : Int) - M)).length : Int)).sum + (if co x + M < k then (k : Int) - (co x + M) else 0) := by
      intro k
      induction k with
      | zero =>
        rw [if_neg (by omega)]; rfl
      | succ k ihk =>
        rw [List.range_succ, List.map_append, List.map_append, List.sum_append, List.sum_append, ihk]
        simp only [List.map_cons, List.map_nil, List.sum_cons, List.sum_nil, List.filter_cons]
        by_cases hk : co x ≤ (k : Int) - M
        · simp only [hk, decide_true, if_true, List.length_cons]
          split <;> split <;> omega
        · simp only [hk, decide_false, Bool.false_eq_true, if_false]
          split <;> split <;> omega
    rw [e1, key, ih, List.length_cons]
    have e2 : ((r.length + 1 : Nat) : Int) * M = (r.length : Int) * M + M := by rw [Int.natCast_add, Int.add_mul]; simp
    rw [e2]
    split <;> omega
theorem sum_le_of {α : Type} (l : List α) (f g : α → Int) (h : ∀ x ∈ l, f x ≤ g x) : (l.map f).sum ≤ (l.map g).sum := by
  induction l with
  | nil => simp
  | cons x r ih =>
    have h1 := h x (List.mem_cons_self ..)
    have h2 := ih fun y hy => h y (List.mem_cons_of_mem _ hy)
    simp only [List.map_cons, List.sum_cons]
    omega
theorem sum_dom {co : Nat → Int} {a b : List Nat} (M : Nat) (ha : ∀ i ∈ a, -(M : Int) ≤ co i ∧ co i ≤ M) (hb : ∀ i ∈ b, -(M : Int) ≤ co i ∧ co i ≤ M) (hl : a.length = b.length) (h : ∀ c : Int, (b.filter fun j => decide (co j ≤ c)).length ≤ (a.filter fun j => decide (co j ≤ c)).length) : cs co a ≤ cs co b := by
  rw [layer co a M ha, layer co b M hb, hl]
  have := sum_le_of (List.range (2 * M)) (fun (c : Nat) => ((b.filter fun j => decide (co j ≤ (c : Int) - M)).length : Int)) (fun (c : Nat) => ((a.filter fun j => decide (co j ≤ (c : Int) - M)).length : Int)) (fun c _ => by have := h ((c : Int) - M); omega)
  omega
end Go.Proofs.Ytdpjbjgecmnmnaa.SpanLaw
