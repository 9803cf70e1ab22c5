/- A region that draws its order, whose last operations (from number n on) are stores over what was loaded: S behind each operation before them. -/
/- A drawn region in which several operations that make memory may come up in any order: each shown once, by what its result is good for. -/
import Derived.Test.YtpoolpaagbeokaaVKit
import Derived.StillTailTactics
import Derived.Deep.RegionHeld3
import Derived.Below
namespace Go.Proofs.Ytpoolpaagbeokaa.SinkN
open Go
set_option linter.unusedSimpArgs false
set_option linter.unusedVariables false
section
variable {P : Program} {ops : Array Oper} {Q : Exit → Act → World → Prop} {md : Region.Mode} {S : World → Prop} {n : Nat} {skip : List Nat}
/-- behind which S need not hold -/
def exq (n : Nat) (skip : List Nat) (i : Nat) : Bool := decide (n ≤ i) || skip.contains i
/-- whatever order is picked; S behind each operation before number n, but some -/
def AnyN (P : Program) (md : Region.Mode) (ops : Array Oper) (Q : Exit → Act → World → Prop) (S : World → Prop) (n : Nat) (skip : List Nat) : Nat → Array Bool → Act → World → Prop
  | 0, listed, a, w => Region.ready md ops listed = [] ∧ Q .normal a w
  | f + 1, listed, a, w => (Region.ready md ops listed = [] → Q .normal a w) ∧ ∀ i ∈ Region.ready md ops listed, wpOp P ops Q i (fun a' w' => (exq n skip i = true ∨ S w') ∧ AnyN P md ops Q S n skip f (listed.setIfInBounds i true) a' w') a w
theorem AnyN.any : ∀ (f : Nat) (listed : Array Bool) (a : Act) (w : World), AnyN P md ops Q S n skip f listed a w → wpAny P md ops Q f listed a w
  | 0, _, _, _, h => h
  | f + 1, _, _, _, h => ⟨h.1, fun i hi => wpOp_mono (fun a' w' h' => AnyN.any f _ a' w' h'.2) (h.2 i hi)⟩
theorem start {id : Nat} {a : Act} {w : World} (n : Nat) (skip : List Nat) (S : World → Prop) (hm : P.follows .mixedOrders = true) (h : AnyN P .any ops Q S n skip ops.size (Array.replicate ops.size false) a w.drew) : (Code.region id ops true).wp P Q a w :=
  wp_region_any hm (AnyN.any _ _ _ _ h)
/-- each before n, but some, is waited for by one up to n -/
def sinkS (md : Region.Mode) (ops : Array Oper) (n : Nat) (skip : List Nat) : Bool :=
  (List.range n).all fun i => skip.contains i || (List.range (n + 1)).any fun j => decide (i < j) && !skip.contains j && Region.waitsFor md ops j i
theorem waits {listed : Array Bool} (hs : sinkS md ops n skip = true) (hc : Region.chainB md ops n = true) (hn : n < ops.size) (inv : HeadInv md ops n listed) :
    ∀ (d i : Nat), n - i = d → i < n → skip.contains i = false → listed.getD i true = false → ∀ t, n ≤ t → t ∉ Region.ready md ops listed := by
  intro d
  induction d using Nat.strongRecOn with
  | _ d ih =>
    intro i hd hi hsk hun t ht hr
    obtain ⟨_, ot, hot, hall⟩ := mem_ready.1 hr
    have htlt : t < ops.size := (Array.getElem?_eq_some_iff.1 hot).1
    by_cases htn : t = n
    · subst htn
      have h1 := List.all_eq_true.1 hs i (List.mem_range.2 hi)
      rw [hsk, Bool.false_or] at h1
      obtain ⟨j, hj, hj2⟩ := List.any_eq_true.1 h1
      simp only [Bool.and_eq_true, decide_eq_true_eq, Bool.not_eq_true'] at hj2
      obtain ⟨oj, hoj, e, he, hb, hon⟩ := Region.waitsFor_spec hj2.2
      have hjle : j ≤ t := by have := List.mem_range.1 hj; omega
      by_cases hjt : j = t
      · subst hjt
        have : oj = ot := Option.some.inj (hoj.symm.trans hot)
        subst this
        have h2 := hall e he hb
        rw [hon, getD_both hun] at h2
        cases h2
      · cases hl : listed.getD j false with
        | true =>
          have h2 := inv.closed j oj hoj hl e he hb
          rw [hon, getD_both hun] at h2
          cases h2
        | false =>
          have hjs : j < listed.size := by rw [inv.size]; omega
          exact ih (t - j) (by omega) j rfl (by omega) hj2.1.2 (getD_in hjs hl) t (Nat.le_refl _) hr
    · have h1 := List.all_eq_true.1 hc t (List.mem_range.2 htlt)
      simp only [Bool.or_eq_true, decide_eq_true_eq] at h1
      rcases h1 with h1 | h1
      · omega
      · obtain ⟨o', ho', e, he, hb, hon⟩ := Region.waitsFor_spec h1
        have : o' = ot := Option.some.inj (ho'.symm.trans hot)
        subst this
        have h2 := hall e he hb
        rw [hon, getD_both (inv.tail (t - 1) (by omega) (by omega))] at h2
        cases h2
/-- what stands behind a beginning, asked of the kernel -/
def headB (md : Region.Mode) (ops : Array Oper) (n : Nat) (listed : Array Bool) : Bool :=
  decide (listed.size = ops.size) && ((List.range ops.size).all fun j => match ops[j]? with | some oj => !listed.getD j false || oj.after.all fun e => !Region.binds md e || listed.getD e.on false | none => true) && (List.range ops.size).all fun t => decide (t < n) || !listed.getD t true
theorem headB_spec {listed : Array Bool} (h : headB md ops n listed = true) : HeadInv md ops n listed := by
  simp only [headB, Bool.and_eq_true, decide_eq_true_eq] at h
  obtain ⟨⟨h1, h2⟩, h3⟩ := h
  refine ⟨h1, fun j oj hj hl e he hb => ?_, fun t ht htn => ?_⟩
  · have hjs : j < ops.size := (Array.getElem?_eq_some_iff.1 hj).1
    have h4 := List.all_eq_true.1 h2 j (List.mem_range.2 hjs)
    rw [hj] at h4
    simp only [hl, Bool.not_true, Bool.false_or] at h4
    have h5 := (Array.all_eq_true'.1 h4) e he
    simp only [hb, Bool.not_true, Bool.false_or] at h5
    exact h5
  · have h4 := List.all_eq_true.1 h3 t (List.mem_range.2 htn)
    simp only [Bool.or_eq_true, decide_eq_true_eq, Bool.not_eq_true'] at h4
    rcases h4 with h4 | h4
    · omega
    · exact h4
/-- one that needs nothing of the world -/
theorem AnyN.free_ {i : Nat} {oi : Oper} {v : Value} (hi : ops[i]? = some oi) (hsel : Region.noSelect ops = true) (hex : exq n skip i = true) (hQ : ∀ c a w, Q (.panic c) (a.put oi.dst v) w → Q (.panic c) a w) : ∀ (f : Nat) (listed : Array Bool) (a : Act) (w : World),
      (∀ j oj, ops[j]? = some oj → j ≠ i → listed.getD j true = false → (∀ e ∈ oj.after, Region.binds md e = true → e.on ≠ i) → oi.apart ops oj = true) →
      i ∈ Region.ready md ops listed → YieldsIf P ops (fun _ => True) oi v a → AnyN P md ops Q S n skip f (listed.setIfInBounds i true) (a.put oi.dst v) w → AnyN P md ops Q S n skip (f + 1) listed a w := by
  have sel := Region.noSelect_spec hsel
  intro f
  induction f with
  | zero =>
    intro listed a w _ hr hy H
    refine ⟨fun h => (by rw [h] at hr; cases hr), fun j hj => ?_⟩
    by_cases e : j = i
    · rw [e]
      exact hy.wpOp hi trivial ⟨.inl hex, H⟩
    · have := ready_mono hj e
      rw [H.1] at this
      cases this
  | succ f ih =>
    intro listed a w hfree hr hy H
    have hun := (mem_ready.1 hr).1
    refine ⟨fun h => (by rw [h] at hr; cases hr), fun j hj => ?_⟩
    by_cases e : j = i
    · rw [e]
      exact hy.wpOp hi trivial ⟨.inl hex, H⟩
    · obtain ⟨hjun, oj, hoj, hall⟩ := mem_ready.1 hj
      have hno : ∀ x ∈ oj.after, Region.binds md x = true → x.on ≠ i := fun x hx hb hxi => by
        have h1 := hall x hx hb
        rw [hxi, getD_both hun] at h1
        cases h1
      have h2 := wpOp_putIf hoj (hfree j oj hoj e hjun hno) (fun cs b => sel i oi cs b hi) (fun cs b => sel j oj cs b hoj) hQ hy (H.2 j (ready_mono hj e))
      refine wpOp_mono (fun a' w' h3 => ⟨h3.2.1, ih (listed.setIfInBounds j true) a' w' (fun k ok hk hki hku hkn => ?_) (ready_mono hr (fun h => e h.symm)) h3.1 ?_⟩) h2
      · refine hfree k ok hk hki ?_ hkn
        by_cases hjk : j = k
        · subst hjk; exact hjun
        · rw [getD_set_ne true hjk] at hku
          exact hku
      · rw [Array.setIfInBounds_comm _ _ e]
        exact h3.2.2
/-- one that yields in every world that meets S -/
theorem AnyN.first {i : Nat} {oi : Oper} {v : Value} (hi : ops[i]? = some oi) (hsel : Region.noSelect ops = true) (hs : sinkS md ops n skip = true) (hc : Region.chainB md ops n = true) (hn : n < ops.size) (hin : i < n) (hsk : skip.contains i = false)
    (hQ : ∀ c a w, Q (.panic c) (a.put oi.dst v) w → Q (.panic c) a w) : ∀ (f : Nat) (listed : Array Bool) (a : Act) (w : World), HeadInv md ops n listed → (∀ k ∈ skip, listed.getD k true = true) →
      (∀ j oj, ops[j]? = some oj → j ≠ i → listed.getD j true = false → (∀ e ∈ oj.after, Region.binds md e = true → e.on ≠ i) → oi.apart ops oj = true) →
      i ∈ Region.ready md ops listed → YieldsIf P ops S oi v a → S w → AnyN P md ops Q S n skip f (listed.setIfInBounds i true) (a.put oi.dst v) w → AnyN P md ops Q S n skip (f + 1) listed a w := by
  have sel := Region.noSelect_spec hsel
  intro f
  induction f with
  | zero =>
    intro listed a w inv _ _ hr hy hS H
    refine ⟨fun h => (by rw [h] at hr; cases hr), fun j hj => ?_⟩
    by_cases e : j = i
    · rw [e]
      exact hy.wpOp hi hS ⟨.inr hS, H⟩
    · have := ready_mono hj e
      rw [H.1] at this
      cases this
  | succ f ih =>
    intro listed a w inv hskl hfree hr hy hS H
    have hun := (mem_ready.1 hr).1
    refine ⟨fun h => (by rw [h] at hr; cases hr), fun j hj => ?_⟩
    have hjn : j < n := by
      rcases Nat.lt_or_ge j n with h | h
      · exact h
      · exact absurd hj (waits hs hc hn inv _ i rfl hin hsk hun j h)
    by_cases e : j = i
    · rw [e]
      exact hy.wpOp hi hS ⟨.inr hS, H⟩
    · obtain ⟨hjun, oj, hoj, hall⟩ := mem_ready.1 hj
      have hno : ∀ x ∈ oj.after, Region.binds md x = true → x.on ≠ i := fun x hx hb hxi => by
        have h1 := hall x hx hb
        rw [hxi, getD_both hun] at h1
        cases h1
      have hjs : exq n skip j = false := by
        unfold exq
        rw [Bool.or_eq_false_iff]
        refine ⟨decide_eq_false (by omega), ?_⟩
        cases hcj : skip.contains j with
        | false => rfl
        | true =>
          have := hskl j (by simpa using hcj)
          rw [hjun] at this
          cases this
      have h2 := wpOp_putIf hoj (hfree j oj hoj e hjun hno) (fun cs b => sel i oi cs b hi) (fun cs b => sel j oj cs b hoj) hQ hy (H.2 j (ready_mono hj e))
      refine wpOp_mono (fun a' w' h3 => ?_) h2
      have hSw : S w' := h3.2.1.resolve_left (by rw [hjs]; decide)
      refine ⟨.inr hSw, ih (listed.setIfInBounds j true) a' w' (inv.set hj hjn) (fun k hk => ?_) (fun k ok hk hki hku hkn => ?_) (ready_mono hr (fun h => e h.symm)) h3.1 hSw ?_⟩
      · by_cases hjk : j = k
        · subst hjk
          rw [hskl j hk] at hjun
          cases hjun
        · rw [getD_set_ne true hjk]
          exact hskl k hk
      · refine hfree k ok hk hki ?_ hkn
        by_cases hjk : j = k
        · subst hjk; exact hjun
        · rw [getD_set_ne true hjk] at hku
          exact hku
      · rw [Array.setIfInBounds_comm _ _ e]
        exact h3.2.2
/-- the moves of a walk -/
theorem AnyN.takeFree {i : Nat} {oi : Oper} {v : Value} {fuel : Nat} {listed : Array Bool} {a : Act} {w : World} (hi : ops[i]? = some oi) (hb : (Region.noSelect ops && exq n skip i && Region.free md ops listed i && (Region.ready md ops listed).contains i) = true)
    (hQ : ∀ c a w, Q (.panic c) (a.put oi.dst v) w → Q (.panic c) a w) (hy : YieldsIf P ops (fun _ => True) oi v a)
    (h : AnyN P md ops Q S n skip fuel (listed.setIfInBounds i true) (a.put oi.dst v) w) : AnyN P md ops Q S n skip (fuel + 1) listed a w := by
  simp only [Bool.and_eq_true] at hb
  exact AnyN.free_ hi hb.1.1.1 hb.1.1.2 hQ fuel listed a w (Region.free_spec hi hb.1.2) (by simpa using hb.2) hy h
theorem AnyN.take {i : Nat} {oi : Oper} {v : Value} {fuel : Nat} {listed : Array Bool} {a : Act} {w : World} (hi : ops[i]? = some oi)
    (hb : (Region.noSelect ops && sinkS md ops n skip && Region.chainB md ops n && decide (n < ops.size) && decide (i < n) && !skip.contains i && headB md ops n listed && (skip.all fun k => listed.getD k true) && Region.free md ops listed i && (Region.ready md ops listed).contains i) = true)
    (hQ : ∀ c a w, Q (.panic c) (a.put oi.dst v) w → Q (.panic c) a w) (hy : YieldsIf P ops S oi v a) (hS : S w)
    (h : AnyN P md ops Q S n skip fuel (listed.setIfInBounds i true) (a.put oi.dst v) w) : AnyN P md ops Q S n skip (fuel + 1) listed a w := by
  simp only [Bool.and_eq_true, decide_eq_true_eq, Bool.not_eq_true', List.all_eq_true] at hb
  obtain ⟨⟨⟨⟨⟨⟨⟨⟨⟨b1, b2⟩, b3⟩, b4⟩, b5⟩, b6⟩, b7⟩, b8⟩, b9⟩, b10⟩ := hb
  exact AnyN.first hi b1 b2 b3 b4 b5 b6 hQ fuel listed a w (headB_spec b7) b8 (Region.free_spec hi b9) (by simpa using b10) hy hS h
/-- each of those that may come up -/
def AllN (P : Program) (md : Region.Mode) (ops : Array Oper) (Q : Exit → Act → World → Prop) (S : World → Prop) (n : Nat) (skip : List Nat) (fuel : Nat) (listed : Array Bool) (a : Act) (w : World) (rs : List Nat) : Prop :=
  ∀ i ∈ rs, wpOp P ops Q i (fun a' w' => (exq n skip i = true ∨ S w') ∧ AnyN P md ops Q S n skip fuel (listed.setIfInBounds i true) a' w') a w
theorem AllN.nil {fuel : Nat} {listed : Array Bool} {a : Act} {w : World} : AllN P md ops Q S n skip fuel listed a w [] := fun _ h => by cases h
theorem AllN.cons {fuel : Nat} {listed : Array Bool} {a : Act} {w : World} {i : Nat} {o : Oper} {rs : List Nat} (ho : ops[i]? = some o)
    (h : ∀ K' : Act → World → Prop, Shut (∀ a w, (exq n skip i = true ∨ S w) → AnyN P md ops Q S n skip fuel (listed.setIfInBounds i true) a w → K' a w) → if Region.wanted o (yielded ops a.tmps) = true then Oper.wp P o a w K' Q else K' (a.put o.dst undef) w)
    (hs : AllN P md ops Q S n skip fuel listed a w rs) : AllN P md ops Q S n skip fuel listed a w (i :: rs) := fun j hj => by
  rcases List.mem_cons.1 hj with rfl | hj
  · exact wpOp_step ho (fun K' hK => h K' (fun a w hS hW => hK a w ⟨hS, hW⟩))
  · exact hs j hj
theorem AnyN.ready_ {rs : List Nat} {fuel : Nat} {listed : Array Bool} {a : Act} {w : World} (hr : Region.ready md ops listed = rs) (hne : rs ≠ [])
    (h : AllN P md ops Q S n skip fuel listed a w rs) : AnyN P md ops Q S n skip (fuel + 1) listed a w := ⟨fun h0 => absurd (hr ▸ h0) hne, hr ▸ h⟩
theorem AnyN.done {listed : Array Bool} {a : Act} {w : World} (hr : Region.ready md ops listed = []) (h : Q .normal a w) : AnyN P md ops Q S n skip 0 listed a w := ⟨hr, h⟩
end
end Go.Proofs.Ytpoolpaagbeokaa.SinkN

namespace Go.Proofs.Ytpoolpaagbeokaa.Makers
open Go Go.RowKit
set_option linter.unusedSimpArgs false
set_option linter.unusedVariables false

/-- slots D filled by f -/
def putsF (a : Act) (D : List Tmp) (f : Tmp → Value) : Act := D.foldl (fun x d => x.put (some d) (f d)) a
theorem putsF_size (D : List Tmp) (f : Tmp → Value) : ∀ a : Act, (putsF a D f).tmps.size = a.tmps.size ∧ (putsF a D f).defers = a.defers := by
  induction D with
  | nil => intro a; exact ⟨rfl, rfl⟩
  | cons d D ih =>
    intro a
    have h := ih (a.put (some d) (f d))
    refine ⟨h.1.trans ?_, h.2⟩
    simp [Act.put]
theorem putsF_get (D : List Tmp) (f : Tmp → Value) (t : Nat) : ∀ a : Act, (putsF a D f).tmps[t]? = if t ∈ D ∧ t < a.tmps.size then some (f t) else a.tmps[t]? := by
  induction D with
  | nil => intro a; simp [putsF]
  | cons d D ih =>
    intro a
    have h := ih (a.put (some d) (f d))
    have e : putsF a (d :: D) f = putsF (a.put (some d) (f d)) D f := rfl
    have hs : (a.put (some d) (f d)).tmps.size = a.tmps.size := by simp [Act.put]
    rw [e, h, hs]
    have hg : (a.put (some d) (f d)).tmps[t]? = if t = d ∧ t < a.tmps.size then some (f d) else a.tmps[t]? := by
      simp only [Act.put, Array.getElem?_setIfInBounds]
      by_cases h1 : d = t
      · subst h1
        by_cases h2 : d < a.tmps.size
        · simp [h2]
        · simp [h2, Array.getElem?_eq_none (Nat.le_of_not_lt h2)]
      · rw [if_neg h1, if_neg (fun h => h1 h.1.symm)]
    rw [hg]
    by_cases h2 : t < a.tmps.size
    · by_cases h1 : t ∈ D
      · simp [h1, h2]
      · by_cases h3 : t = d
        · subst h3; simp [h1, h2]
        · simp [h1, h2, h3]
    · simp [h2]
theorem act_ext {a b : Act} (h1 : ∀ t : Nat, a.tmps[t]? = b.tmps[t]?) (h2 : a.defers = b.defers) : a = b := by
  cases a
  cases b
  simp only [Act.mk.injEq] at *
  exact ⟨Array.ext_getElem? h1, h2⟩
theorem putsF_put {a : Act} {D : List Tmp} {f : Tmp → Value} {d : Tmp} (hd : d ∈ D) (v : Value) : (putsF a D f).put (some d) v = putsF a D (fun x => if x = d then v else f x) := by
  refine act_ext (fun t => ?_) ?_
  · rw [putsF_get]
    simp only [Act.put, Array.getElem?_setIfInBounds, (putsF_size D f a).1, putsF_get]
    by_cases h1 : d = t
    · subst h1
      by_cases h2 : d < a.tmps.size
      · simp [h2, hd]
      · simp [h2, Array.getElem?_eq_none (Nat.le_of_not_lt h2)]
    · rw [if_neg h1, show (if t = d then v else f t) = f t from if_neg (fun h => h1 h.symm)]
  · exact (putsF_size D f a).2.trans (putsF_size D _ a).2.symm
theorem putsF_self (a : Act) (D : List Tmp) : putsF a D (fun d => a.tmps.getD d undef) = a := by
  refine act_ext (fun t => ?_) (putsF_size D _ a).2
  rw [putsF_get]
  split
  · rename_i h
    rw [Array.getElem?_eq_getElem h.2, Array.getD_eq_getD_getElem?, Array.getElem?_eq_getElem h.2]
    rfl
  · rfl

def mnum (ms : List (Nat × Tmp)) : List Nat := ms.map (·.1)
def mdst (ms : List (Nat × Tmp)) : List Tmp := ms.map (·.2)
/-- the makers in an order in which they may come up; none guarded -/
def topo (md : Region.Mode) (ops : Array Oper) (listed : Array Bool) : List Nat → List (Nat × Tmp) → Bool
  | _, [] => true
  | dn, p :: r => (match ops[p.1]? with
      | none => false
      | some o => o.guard.isNone && (o.dst == some p.2) && (listed.getD p.1 true == false) && o.after.all (fun e => !Region.binds md e || listed.getD e.on false || dn.contains e.on)) && topo md ops listed (p.1 :: dn) r
/-- all else waits: for all makers, or for another that waits -/
def rest (md : Region.Mode) (ops : Array Oper) (listed : Array Bool) (ms : List (Nat × Tmp)) : Bool :=
  (List.range ops.size).all fun j => listed.getD j true || (mnum ms).contains j || (match ops[j]? with
    | none => true
    | some o => ((mnum ms).all fun i => o.after.any fun e => Region.binds md e && e.on == i) || o.after.any fun e => Region.binds md e && (listed.getD e.on true == false) && !(mnum ms).contains e.on)
def lists (listed : Array Bool) (ms : List (Nat × Tmp)) : Array Bool := ms.foldl (fun L p => L.setIfInBounds p.1 true) listed
theorem lists_get (ms : List (Nat × Tmp)) (j : Nat) : ∀ L : Array Bool, (lists L ms)[j]? = if j ∈ mnum ms ∧ j < L.size then some true else L[j]? := by
  induction ms with
  | nil => intro L; simp [lists, mnum]
  | cons p ms ih =>
    intro L
    have e : lists L (p :: ms) = lists (L.setIfInBounds p.1 true) ms := rfl
    rw [e, ih]
    have hs : (L.setIfInBounds p.1 true).size = L.size := by simp
    rw [hs, Array.getElem?_setIfInBounds]
    have hm : mnum (p :: ms) = p.1 :: mnum ms := rfl
    rw [hm]
    by_cases h2 : j < L.size
    · by_cases h1 : j ∈ mnum ms
      · simp [h1, h2]
      · by_cases h3 : p.1 = j
        · subst h3; simp [h1, h2]
        · have h4 : ¬ j = p.1 := fun h => h3 h.symm
          simp [h1, h2, h3, h4]
    · by_cases h3 : p.1 = j
      · subst h3; simp [h2]
      · simp [h2, h3]
theorem topo_mem {md : Region.Mode} {ops : Array Oper} {listed : Array Bool} : ∀ (ms : List (Nat × Tmp)) (dn : List Nat), topo md ops listed dn ms = true → ∀ p ∈ ms, ∃ o, ops[p.1]? = some o ∧ o.guard = none ∧ o.dst = some p.2 ∧ listed[p.1]? = some false
  | [], _, _, p, hp => by cases hp
  | q :: r, dn, h, p, hp => by
    unfold topo at h
    rw [Bool.and_eq_true] at h
    rcases List.mem_cons.1 hp with rfl | hp
    · cases ho : ops[p.1]? with
      | none => rw [ho] at h; exact absurd h.1 (by simp)
      | some o =>
        rw [ho] at h
        simp only [Bool.and_eq_true, Option.isNone_iff_eq_none, beq_iff_eq] at h
        refine ⟨o, rfl, h.1.1.1.1, h.1.1.1.2, ?_⟩
        have h3 := h.1.1.2
        rw [Array.getD_eq_getD_getElem?] at h3
        cases hl : listed[p.1]? with
        | none => rw [hl] at h3; cases h3
        | some b => rw [hl] at h3; simp at h3; rw [h3]
    · exact topo_mem r _ h.2 p hp
theorem topo_ready {md : Region.Mode} {ops : Array Oper} {listed L : Array Bool} : ∀ (ms : List (Nat × Tmp)) (dn : List Nat) (r : List (Nat × Tmp)), topo md ops listed dn ms = true → r ≠ [] → (∀ p ∈ r, p ∈ ms) →
    (∀ j, listed.getD j false = true → L.getD j false = true) → (∀ j ∈ dn, L.getD j false = true) → (∀ p ∈ ms, p ∉ r → L.getD p.1 false = true) → (∀ p ∈ r, L.getD p.1 true = false) → ∃ p ∈ r, p.1 ∈ Region.ready md ops L
  | [], _, r, _, hr, hs, _, _, _, _ => by
    obtain ⟨p, hp⟩ := List.exists_mem_of_ne_nil r hr
    cases hs p hp
  | q :: ms, dn, r, h, hr, hs, hl, hd, hm, hn => by
    unfold topo at h
    rw [Bool.and_eq_true] at h
    by_cases hq : q ∈ r
    · refine ⟨q, hq, mem_ready.2 ⟨hn q hq, ?_⟩⟩
      cases ho : ops[q.1]? with
      | none => rw [ho] at h; exact absurd h.1 (by simp)
      | some o =>
        rw [ho] at h
        simp only [Bool.and_eq_true] at h
        refine ⟨o, rfl, fun e he hb => ?_⟩
        have h4 := (Array.all_eq_true_iff_forall_mem.1 h.1.2) e he
        simp only [hb, Bool.not_true, Bool.false_or, Bool.or_eq_true, List.contains_iff_mem] at h4
        rcases h4 with h4 | h4
        · exact hl _ h4
        · exact hd _ h4
    · refine topo_ready ms (q.1 :: dn) r h.2 hr (fun p hp => ?_) hl (fun j hj => ?_) (fun p hp hn' => hm p (List.mem_cons_of_mem _ hp) hn') hn
      · rcases List.mem_cons.1 (hs p hp) with e | e
        · rw [e] at hp; exact absurd hp hq
        · exact e
      · rcases List.mem_cons.1 hj with e | e
        · rw [e]; exact hm q (List.mem_cons_self ..) hq
        · exact hd j e

section
variable {P : Program} {ops : Array Oper} {Q : Exit → Act → World → Prop} {md : Region.Mode} {S : World → Prop} {ms : List (Nat × Tmp)} {listed : Array Bool} {a : Act} {w : World} {φ : Nat → Value → Nat → Nat → World → Prop} {fuel : Nat}
/-- the makers in whatever order: each shown once -/
theorem wpAnyH_makers (h1 : topo md ops listed [] ms = true) (h2 : rest md ops listed ms = true) (hn1 : (mnum ms).Nodup) (hn2 : (mdst ms).Nodup) (hS : S w)
    (hst : ∀ p ∈ ms, ∀ v a b w1 w2, φ p.1 v a b w1 → Below w1.heap.size w1 w2 → φ p.1 v a b w2)
    (hstep : ∀ p ∈ ms, ∀ o, ops[p.1]? = some o → ∀ f w1, S w1 → Below w.heap.size w w1 → ∀ K : Act → World → Prop, (∀ v w2, φ p.1 v w1.heap.size w2.heap.size w2 → S w2 → Below w1.heap.size w1 w2 → K ((putsF a (mdst ms) f).put (some p.2) v) w2) → o.wp P (putsF a (mdst ms) f) w1 K Q)
    (hfin : ∀ (f : Tmp → Value) (lo hi : Nat → Nat) (w1 : World), S w1 → Below w.heap.size w w1 → (∀ p ∈ ms, φ p.1 (f p.2) (lo p.1) (hi p.1) w1 ∧ w.heap.size ≤ lo p.1 ∧ hi p.1 ≤ w1.heap.size) → (∀ p ∈ ms, ∀ q ∈ ms, p.1 ≠ q.1 → hi p.1 ≤ lo q.1 ∨ hi q.1 ≤ lo p.1) → wpAnyH P md ops Q S fuel (lists listed ms) (putsF a (mdst ms) f) w1) :
    wpAnyH P md ops Q S (fuel + ms.length) listed a w := by
  have hmem := topo_mem ms [] h1
  have key : ∀ (k : Nat) (r : List (Nat × Tmp)), r.length = k → r.Nodup → (∀ p ∈ r, p ∈ ms) → ∀ (f : Tmp → Value) (lo hi : Nat → Nat) (w1 : World) (L : Array Bool), S w1 → Below w.heap.size w w1 → (∀ p ∈ ms, p ∉ r → φ p.1 (f p.2) (lo p.1) (hi p.1) w1 ∧ w.heap.size ≤ lo p.1 ∧ hi p.1 ≤ w1.heap.size) → (∀ p ∈ ms, ∀ q ∈ ms, p ∉ r → q ∉ r → p.1 ≠ q.1 → hi p.1 ≤ lo q.1 ∨ hi q.1 ≤ lo p.1) →
      L.size = listed.size → (∀ j, L[j]? = if j ∈ mnum ms ∧ j ∉ mnum r then some true else listed[j]?) → wpAnyH P md ops Q S (fuel + k) L (putsF a (mdst ms) f) w1 := by
    intro k
    induction k with
    | zero =>
      intro r hr _ _ f lo hi w1 L hS1 hb hph hdj hsz hL
      obtain rfl := List.eq_nil_of_length_eq_zero hr
      have e : L = lists listed ms := by
        refine Array.ext_getElem? fun j => ?_
        rw [hL, lists_get]
        by_cases hj : j ∈ mnum ms
        · obtain ⟨p, hp, rfl⟩ := List.mem_map.1 hj
          obtain ⟨_, _, _, _, hlp⟩ := hmem p hp
          have hlt : p.1 < listed.size := (Array.getElem?_eq_some_iff.1 hlp).1
          rw [if_pos ⟨hj, by simp [mnum]⟩, if_pos ⟨hj, hlt⟩]
        · simp [hj]
      rw [e]
      exact hfin f lo hi w1 hS1 hb (fun p hp => hph p hp (by simp)) (fun p hp q hq => hdj p hp q hq (by simp) (by simp))
    | succ k ih =>
      intro r hr hrn hrm f lo hi w1 L hS1 hb hph hdj hsz hL
      have hne : r ≠ [] := fun e => by rw [e] at hr; cases hr
      have hidx : ∀ p ∈ ms, ∀ q ∈ ms, p.1 = q.1 → p = q := fun p hp q hq e => by
        have := List.pairwise_map.1 hn1
        obtain ⟨i, hi, rfl⟩ := List.getElem_of_mem hp
        obtain ⟨j, hj, rfl⟩ := List.getElem_of_mem hq
        rcases Nat.lt_trichotomy i j with h | h | h
        · exact absurd e (List.pairwise_iff_getElem.1 this i j hi hj h)
        · subst h; rfl
        · exact absurd e.symm (List.pairwise_iff_getElem.1 this j i hj hi h)
      have hrnum : ∀ p ∈ ms, p.1 ∈ mnum r → p ∈ r := fun p hp h => by
        obtain ⟨q, hq, e⟩ := List.mem_map.1 h
        rwa [hidx p hp q (hrm q hq) e.symm]
      have hLr : ∀ p ∈ r, L[p.1]? = some false := fun p hp => by
        obtain ⟨_, _, _, _, hlp⟩ := hmem p (hrm p hp)
        rw [hL, if_neg (fun h => h.2 (List.mem_map.2 ⟨p, hp, rfl⟩)), hlp]
      have hLd : ∀ p ∈ ms, p ∉ r → L.getD p.1 false = true := fun p hp hnr => by
        rw [Array.getD_eq_getD_getElem?, hL, if_pos ⟨List.mem_map.2 ⟨p, hp, rfl⟩, fun h => hnr (hrnum p hp h)⟩]
        rfl
      have hrd : ∀ i ∈ Region.ready md ops L, ∃ p ∈ r, p.1 = i := fun i hi => by
        obtain ⟨h0, o, ho, hall⟩ := mem_ready.1 hi
        by_cases him : i ∈ mnum ms
        · obtain ⟨p, hp, rfl⟩ := List.mem_map.1 him
          by_cases hpr : p ∈ r
          · exact ⟨p, hpr, rfl⟩
          · have := hLd p hp hpr
            rw [Array.getD_eq_getD_getElem?] at h0 this
            cases hx : L[p.1]? with
            | none => rw [hx] at h0; cases h0
            | some b => rw [hx] at h0 this; simp at h0 this; rw [h0] at this; cases this
        · exfalso
          have hlt : i < ops.size := (Array.getElem?_eq_some_iff.1 ho).1
          have h5 := List.all_eq_true.1 h2 i (List.mem_range.2 hlt)
          have hLi : L[i]? = listed[i]? := by rw [hL, if_neg (fun h => him h.1)]
          have hli : listed.getD i true = false := by
            rw [Array.getD_eq_getD_getElem?, ← hLi, ← Array.getD_eq_getD_getElem?]; exact h0
          rw [hli, ho] at h5
          simp only [Bool.false_or, Bool.or_eq_true, List.contains_iff_mem, him, false_or] at h5
          rcases h5 with h5 | h5
          · obtain ⟨p, hp⟩ := List.exists_mem_of_ne_nil r hne
            have h6 := List.all_eq_true.1 h5 p.1 (List.mem_map.2 ⟨p, hrm p hp, rfl⟩)
            rw [Array.any_eq_true] at h6
            obtain ⟨x, hx, h6⟩ := h6
            simp only [Bool.and_eq_true, beq_iff_eq] at h6
            have h7 := hall _ (Array.getElem_mem hx) h6.1
            rw [h6.2, Array.getD_eq_getD_getElem?, hLr p hp] at h7
            cases h7
          · rw [Array.any_eq_true] at h5
            obtain ⟨x, hx, h6⟩ := h5
            simp only [Bool.and_eq_true, beq_iff_eq, Bool.not_eq_true', Bool.eq_false_iff, ne_eq, List.contains_iff_mem] at h6
            have h7 := hall _ (Array.getElem_mem hx) h6.1.1
            rw [Array.getD_eq_getD_getElem?, hL, if_neg (fun h => h6.2 h.1), ← Array.getD_eq_getD_getElem?] at h7
            have h8 := h6.1.2
            rw [Array.getD_eq_getD_getElem?] at h7 h8
            cases hy : listed[o.after[x].on]? with
            | none => rw [hy] at h7; cases h7
            | some b => rw [hy] at h7 h8; simp at h7 h8; rw [h7] at h8; cases h8
      obtain ⟨p0, hp0, hr0⟩ := topo_ready (L := L) ms [] r h1 hne hrm (fun j hj => by
        rw [Array.getD_eq_getD_getElem?, hL]
        split
        · rfl
        · rw [← Array.getD_eq_getD_getElem?]; exact hj) (fun j hj => by cases hj) hLd (fun p hp => by rw [Array.getD_eq_getD_getElem?, hLr p hp]; rfl)
      refine ⟨fun h => ?_, fun i hir => ?_⟩
      · rw [h] at hr0; cases hr0
      · obtain ⟨p, hp, rfl⟩ := hrd i hir
        obtain ⟨o, ho, hg, hdst, _⟩ := hmem p (hrm p hp)
        unfold wpOp
        simp only [ho]
        have hw : Region.wanted o (yielded ops (putsF a (mdst ms) f).tmps) = true := by simp [Region.wanted, hg]
        simp only [hw, if_true]
        refine .inl (hstep p (hrm p hp) o ho f w1 hS1 hb _ fun v w2 hv hS2 hb2 => ⟨hS2, ?_⟩)
        have hpd : p.2 ∈ mdst ms := List.mem_map.2 ⟨p, hrm p hp, rfl⟩
        rw [putsF_put hpd]
        have hrl : (r.erase p).length = k := by rw [List.length_erase_of_mem hp, hr]; rfl
        have hpl : p.1 < L.size := (Array.getElem?_eq_some_iff.1 (hLr p hp)).1
        refine ih (r.erase p) hrl (hrn.erase p) (fun q hq => hrm q (List.mem_of_mem_erase hq)) _ (fun x => if x = p.1 then w1.heap.size else lo x) (fun x => if x = p.1 then w2.heap.size else hi x) w2 (L.setIfInBounds p.1 true) hS2 (hb.trans (hb2.mono hb.size)) (fun q hq hqr => ?_) (fun q hq q' hq' hqr hqr' hne => ?_) (by simpa using hsz) (fun j => ?_)
        · by_cases e : q = p
          · subst e
            simp only [if_pos]
            exact ⟨hv, hb.size, Nat.le_refl _⟩
          · have hqr' : q ∉ r := fun h => hqr ((hrn.mem_erase_iff).2 ⟨e, h⟩)
            have hne2 : ¬ q.2 = p.2 := fun h => e (by
              have := List.pairwise_map.1 hn2
              obtain ⟨x, hx, hqx⟩ := List.getElem_of_mem hq
              obtain ⟨y, hy, hpy⟩ := List.getElem_of_mem (hrm p hp)
              rcases Nat.lt_trichotomy x y with h' | h' | h'
              · exact absurd h (by rw [← hqx, ← hpy]; exact List.pairwise_iff_getElem.1 this x y hx hy h')
              · subst h'; exact hqx.symm.trans hpy
              · exact absurd h.symm (by rw [← hqx, ← hpy]; exact List.pairwise_iff_getElem.1 this y x hy hx h'))
            have hne1 : ¬ q.1 = p.1 := fun h => e (hidx q hq p (hrm p hp) h)
            simp only [if_neg hne2, if_neg hne1]
            obtain ⟨a1, a2, a3⟩ := hph q hq hqr'
            exact ⟨hst q hq _ _ _ _ _ a1 hb2, a2, Nat.le_trans a3 hb2.size⟩
        · have hold : ∀ x ∈ ms, x ∉ r.erase p → x.1 ≠ p.1 → x ∉ r := fun x hx hxr hxp h => hxr ((hrn.mem_erase_iff).2 ⟨fun h2 => hxp (by rw [h2]), h⟩)
          by_cases e1 : q.1 = p.1
          · have e2 : ¬ q'.1 = p.1 := fun h => hne (e1.trans h.symm)
            simp only [if_pos e1, if_neg e2]
            exact .inr (hph q' hq' (hold q' hq' hqr' e2)).2.2
          · by_cases e2 : q'.1 = p.1
            · simp only [if_neg e1, if_pos e2]
              exact .inl (hph q hq (hold q hq hqr e1)).2.2
            · simp only [if_neg e1, if_neg e2]
              exact hdj q hq q' hq' (hold q hq hqr e1) (hold q' hq' hqr' e2) hne
        · rw [Array.getElem?_setIfInBounds]
          by_cases e : p.1 = j
          · subst e
            rw [if_pos rfl, if_pos hpl, if_pos ⟨List.mem_map.2 ⟨p, hrm p hp, rfl⟩, fun h => by
              obtain ⟨q, hq, e⟩ := List.mem_map.1 h
              have hq' := hidx q (hrm q (List.mem_of_mem_erase hq)) p (hrm p hp) e
              subst hq'
              exact ((hrn.mem_erase_iff).1 hq).1 rfl⟩]
          · rw [if_neg e, hL]
            have hiff : (j ∉ mnum r) ↔ (j ∉ mnum (r.erase p)) := by
              refine not_congr ⟨fun h => ?_, fun h => ?_⟩
              · obtain ⟨q, hq, e2⟩ := List.mem_map.1 h
                exact List.mem_map.2 ⟨q, (hrn.mem_erase_iff).2 ⟨fun h => e (by rw [← h]; exact e2), hq⟩, e2⟩
              · obtain ⟨q, hq, e2⟩ := List.mem_map.1 h
                exact List.mem_map.2 ⟨q, List.mem_of_mem_erase hq, e2⟩
            by_cases hj : j ∈ mnum ms
            · by_cases hj2 : j ∈ mnum r
              · rw [if_neg (fun h => h.2 hj2), if_neg (fun h => (hiff.2 h.2) hj2)]
              · rw [if_pos ⟨hj, hj2⟩, if_pos ⟨hj, hiff.1 hj2⟩]
            · rw [if_neg (fun h => hj h.1), if_neg (fun h => hj h.1)]
  have hself := putsF_self a (mdst ms)
  have hms : ms.Nodup := (List.pairwise_map.1 hn1).imp (fun h e => h (by rw [e]))
  have := key ms.length ms rfl hms (fun p hp => hp) (fun d => a.tmps.getD d undef) (fun _ => 0) (fun _ => 0) w listed hS (Below.refl _ _) (fun p hp hn => absurd hp hn) (fun p hp _ _ hn => absurd hp hn) rfl (fun j => by rw [if_neg (fun h => h.2 h.1)])
  rwa [hself] at this
end
end Go.Proofs.Ytpoolpaagbeokaa.Makers
