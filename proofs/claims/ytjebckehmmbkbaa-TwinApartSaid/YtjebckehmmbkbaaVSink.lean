/- A region that draws its order, whose loads are all come up before its last operation (a store): loads first, though calls between them make memory. -/
import Derived.Test.YtjebckehmmbkbaaVKit
import Derived.StillTailTactics
import Derived.Deep.RegionHeld3
namespace Go.Proofs.Ytjebckehmmbkbaa.Sink
open Go
set_option linter.unusedSimpArgs false
set_option linter.unusedVariables false
section
variable {P : Program} {ops : Array Oper} {Q : Exit → Act → World → Prop} {md : Region.Mode} {S : World → Prop}

/-- whatever order is picked; S behind each operation but the last -/
def Any (P : Program) (md : Region.Mode) (ops : Array Oper) (Q : Exit → Act → World → Prop) (S : World → Prop) (n : Nat) : Nat → Array Bool → Act → World → Prop
  | 0, listed, a, w => Region.ready md ops listed = [] ∧ Q .normal a w
  | f + 1, listed, a, w => (Region.ready md ops listed = [] → Q .normal a w) ∧ ∀ i ∈ Region.ready md ops listed, wpOp P ops Q i (fun a' w' => (i = n ∨ S w') ∧ Any P md ops Q S n f (listed.setIfInBounds i true) a' w') a w
theorem Any.any {n : Nat} : ∀ (f : Nat) (listed : Array Bool) (a : Act) (w : World), Any P md ops Q S n f listed a w → wpAny P md ops Q f listed a w
  | 0, _, _, _, h => h
  | f + 1, _, _, _, h => ⟨h.1, fun i hi => wpOp_mono (fun a' w' h' => Any.any f _ a' w' h'.2) (h.2 i hi)⟩
theorem Any.first {n i : Nat} {oi : Oper} {v : Value} (hi : ops[i]? = some oi) (hsel : Region.noSelect ops = true) (hs : Region.sinkB md ops n = true) (hc : Region.chainB md ops n = true) (hn : n < ops.size) (hin : i < n)
    (hQ : ∀ c a w, ¬ Q (.panic c) a w) : ∀ (f : Nat) (listed : Array Bool) (a : Act) (w : World), HeadInv md ops n listed →
      (∀ j oj, ops[j]? = some oj → j ≠ i → listed.getD j true = false → (∀ e ∈ oj.after, Region.binds md e = true → e.on ≠ i) → oi.apart ops oj = true) →
      i ∈ Region.ready md ops listed → YieldsIf P ops S oi v a → S w → Any P md ops Q S n f (listed.setIfInBounds i true) (a.put oi.dst v) w → Any P md ops Q S n (f + 1) listed a w := by
  have sel := Region.noSelect_spec hsel
  intro f
  induction f with
  | zero =>
    intro listed a w inv _ hr hy hS H
    refine ⟨fun h => (by rw [h] at hr; cases hr), fun j hj => ?_⟩
    by_cases e : j = i
    · rw [e]
      exact hy.wpOp hi hS ⟨.inr hS, H⟩
    · have := ready_mono hj e
      rw [H.1] at this
      cases this
  | succ f ih =>
    intro listed a w inv hfree hr hy hS H
    have hun := (mem_ready.1 hr).1
    refine ⟨fun h => (by rw [h] at hr; cases hr), fun j hj => ?_⟩
    have hjn : j < n := by
      rcases Nat.lt_or_ge j n with h | h
      · exact h
      · exact absurd hj (tail_waits hs hc hn inv _ i rfl hin hun j h)
    by_cases e : j = i
    · rw [e]
      exact hy.wpOp hi hS ⟨.inr hS, H⟩
    · obtain ⟨hjun, oj, hoj, hall⟩ := mem_ready.1 hj
      have hno : ∀ x ∈ oj.after, Region.binds md x = true → x.on ≠ i := fun x hx hb hxi => by
        have h1 := hall x hx hb
        rw [hxi, getD_both hun] at h1
        cases h1
      have h2 := wpOp_putIf hoj (hfree j oj hoj e hjun hno) (fun cs b => sel i oi cs b hi) (fun cs b => sel j oj cs b hoj) (fun c a w h => absurd h (hQ _ _ _)) hy (H.2 j (ready_mono hj e))
      refine wpOp_mono (fun a' w' h3 => ?_) h2
      have hSw : S w' := h3.2.1.resolve_left (by omega)
      refine ⟨.inr hSw, ih (listed.setIfInBounds j true) a' w' (inv.set hj hjn) (fun k ok hk hki hku hkn => ?_) (ready_mono hr (fun h => e h.symm)) h3.1 hSw ?_⟩
      · refine hfree k ok hk hki ?_ hkn
        by_cases hjk : j = k
        · subst hjk; exact hjun
        · rw [getD_set_ne true hjk] at hku
          exact hku
      · rw [Array.setIfInBounds_comm _ _ e]
        exact h3.2.2
/-- the loads and what else but yields a value, one by one -/
def Head (P : Program) (ops : Array Oper) (S : World → Prop) : List Oper → Act → (Act → Prop) → Prop
  | [], a, R => R a
  | o :: l, a, R => ∃ v, YieldsIf P ops S o v a ∧ Head P ops S l (a.put o.dst v) R
/-- the rest, in the one order that is left -/
def Tail (P : Program) (ops : Array Oper) (S : World → Prop) (Q : Exit → Act → World → Prop) : List Oper → Act → World → Prop
  | [], a, w => Q .normal a w
  | [o], a, w => wpList P ops Q [o] a w
  | o :: l, a, w => ∀ K : Act → World → Prop, Shut (∀ a w, S w → (S w → Tail P ops S Q l a w) → K a w) → if Region.wanted o (yielded ops a.tmps) = true then o.wp P a w K Q else K (a.put o.dst undef) w
theorem tail_any {n : Nat} : ∀ (l : List Oper) (k : Nat) (listed : Array Bool) (a : Act) (w : World), (∀ j, l[j]? = ops[k + j]?) → (l = [] ∨ k + l.length = n + 1) → Region.seqB md ops l.length k listed = true → Tail P ops S Q l a w → Any P md ops Q S n l.length listed a w
  | [], _, _, _, _, _, _, hB, h => ⟨by simpa [Region.seqB] using hB, h⟩
  | [o], k, listed, a, w, hl, hk, hB, h => by
    have h0 : ops[k]? = some o := by simpa using (hl 0).symm
    have hkn : k = n := by simpa using hk
    simp only [List.length_cons, List.length_nil, Region.seqB, Bool.and_eq_true, decide_eq_true_eq] at hB
    refine ⟨fun h1 => (by rw [hB.1] at h1; cases h1), fun i hi => ?_⟩
    rw [hB.1] at hi
    obtain rfl : i = k := by simpa using hi
    have h1 : wpOp P ops Q i (wpList P ops Q []) a w := by unfold wpOp; simp only [h0]; exact h
    exact wpOp_mono (fun a' w' h' => ⟨.inl hkn, by simpa using hB.2, h'⟩) h1
  | o :: o' :: l, k, listed, a, w, hl, hk, hB, h => by
    have h0 : ops[k]? = some o := by simpa using (hl 0).symm
    rw [List.length_cons, Region.seqB, Bool.and_eq_true, decide_eq_true_eq] at hB
    refine ⟨fun h1 => (by rw [hB.1] at h1; cases h1), fun i hi => ?_⟩
    rw [hB.1] at hi
    obtain rfl : i = k := by simpa using hi
    refine wpOp_step h0 fun K hK => h K (fun a' w' hS ht => hK a' w' ⟨.inr hS, ?_⟩)
    exact tail_any (o' :: l) (i + 1) _ a' w' (fun j => by have := hl (j + 1); simpa [Nat.add_assoc, Nat.add_comm 1 j] using this) (.inr (by simp at hk ⊢; omega)) hB.2 (ht hS)
theorem head_any {n : Nat} (hsel : Region.noSelect ops = true) (hs : Region.sinkB md ops n = true) (hc : Region.chainB md ops n = true) (hn : n < ops.size) (hQ : ∀ c a w, ¬ Q (.panic c) a w) (t : List Oper) (w : World) (hS : S w) :
    ∀ (l : List Oper) (k : Nat) (listed : Array Bool) (a : Act), (∀ j, j < l.length → l[j]? = ops[k + j]?) → (∀ j, t[j]? = ops[k + l.length + j]?) → k + l.length ≤ n → k + l.length + t.length = n + 1 → HeadInv md ops n listed →
    Region.lexHead md ops t.length l.length k listed = true → Head P ops S l a (fun a' => Tail P ops S Q t a' w) → Any P md ops Q S n (l.length + t.length) listed a w
  | [], k, listed, a, _, ht, hk, hk2, inv, hB, h => by
    rw [List.length_nil, Nat.zero_add]
    exact tail_any t k listed a w (fun j => by simpa using ht j) (.inr (by simpa using hk2)) (by simpa [Region.lexHead] using hB) h
  | o :: l, k, listed, a, hl, ht, hk, hk2, inv, hB, h => by
    have h0 : ops[k]? = some o := by simpa using (hl 0 (by simp)).symm
    simp only [List.length_cons] at hk hk2 ht
    simp only [List.length_cons, Region.lexHead, Bool.and_eq_true] at hB
    obtain ⟨⟨hr, hf⟩, hB'⟩ := hB
    have hr' : k ∈ Region.ready md ops listed := by simpa using hr
    obtain ⟨v, hy, hK⟩ := h
    rw [List.length_cons, show l.length + 1 + t.length = (l.length + t.length) + 1 by omega]
    refine Any.first h0 hsel hs hc hn (by omega) hQ _ listed a w inv (Region.free_spec h0 hf) hr' hy hS ?_
    exact head_any hsel hs hc hn hQ t w hS l (k + 1) _ _ (fun j hj => by have := hl (j + 1) (by simp; omega); simpa [Nat.add_assoc, Nat.add_comm 1 j] using this)
      (fun j => by have := ht j; rwa [show k + (l.length + 1) + j = k + 1 + l.length + j by omega] at this) (by omega) (by omega) (inv.set hr' (by omega)) hB' hK
/-- what the kernel is asked of the region: m operations that are taken first -/
def okB (md : Region.Mode) (ops : Array Oper) (m n : Nat) : Bool :=
  Region.noSelect ops && decide (n < ops.size) && decide (n + 1 = ops.size) && decide (m ≤ n) && Region.sinkB md ops n && Region.chainB md ops n && Region.lexHead md ops (ops.size - m) m 0 (Array.replicate ops.size false)
theorem wp_region_sink {id : Nat} {a : Act} {w : World} {l : List Oper} (m n : Nat) (S : World → Prop) (hm : P.follows .mixedOrders = true) (hB : okB .any l.toArray m n = true) (hS : S w.drew)
    (h : S w.drew → Head P l.toArray S (l.take m) a (fun a' => Tail P l.toArray S (NoPanic Q) (l.drop m) a' w.drew)) : (Code.region id l.toArray true).wp P Q a w := by
  refine wp_region_noPanic ?_
  simp only [okB, Bool.and_eq_true, decide_eq_true_eq] at hB
  obtain ⟨⟨⟨⟨⟨⟨hsel, hn⟩, hn1⟩, hmn⟩, hs⟩, hc⟩, hlex⟩ := hB
  have hsz : n + 1 = l.length := by simpa using hn1
  have htl : (l.take m).length = m := by simp; omega
  have hdl : (l.drop m).length = l.toArray.size - m := by simp
  have inv0 : HeadInv .any l.toArray n (Array.replicate l.toArray.size false) :=
    ⟨by simp, fun j oj _ hl => (by rw [getD_replicate_false] at hl; cases hl), fun t _ ht => getD_in (by simpa using ht) (getD_replicate_false _ _)⟩
  have H := head_any (md := .any) (S := S) hsel hs hc hn (fun c a w h => (h : False)) (l.drop m) w.drew hS (l.take m) 0 _ a (fun j hj => by
    have hj' : j < m := by rw [htl] at hj; exact hj
    simp [hj']) (fun j => by rw [htl]; simp [List.getElem?_drop]) (by rw [htl]; omega) (by rw [htl, List.length_drop]; omega) inv0 (by rw [htl, hdl]; exact hlex) (h hS)
  have H2 := Any.any _ _ _ _ H
  rw [htl, hdl, show m + (l.toArray.size - m) = l.toArray.size by simp; omega] at H2
  exact wp_region_any hm H2
theorem Head.nil {a : Act} {R : Act → Prop} (h : R a) : Head P ops S [] a R := h
theorem Head.cons {o : Oper} {l : List Oper} {a : Act} {R : Act → Prop} (v : Value) (h1 : Region.wanted o (yielded ops a.tmps) = true) (h2 : ∀ w, S w → (execOp a.eval o).run P w = .ok (.value v) w) (h : Head P ops S l (a.put o.dst v) R) : Head P ops S (o :: l) a R := ⟨v, .inl ⟨h1, h2⟩, h⟩
theorem Tail.cons {o o' : Oper} {l : List Oper} {a : Act} {w : World} (h : ∀ K : Act → World → Prop, Shut (∀ a w, S w → (S w → Tail P ops S Q (o' :: l) a w) → K a w) → if Region.wanted o (yielded ops a.tmps) = true then o.wp P a w K Q else K (a.put o.dst undef) w) : Tail P ops S Q (o :: o' :: l) a w := h
theorem Tail.one {o : Oper} {a : Act} {w : World} (h : wpList P ops Q [o] a w) : Tail P ops S Q [o] a w := h
end
end Go.Proofs.Ytjebckehmmbkbaa.Sink
