/- What a law wants of comp.Order. -/
import Derived.Test.YtjhnlkmdkjlkdaaVCompOrder
import Derived.Test.YtjhnlkmdkjlkdaaVCompUse
import Derived.Test.YtjhnlkmdkjlkdaaVStdCI
namespace Go.Proofs.Ytjhnlkmdkjlkdaa.CompO
open Go.RowKit Go.Proofs.Ytjhnlkmdkjlkdaa NetLaw BellLaw DagLaw CompLaw CompOrd Go.Proofs.Ytjhnlkmdkjlkdaa.Net Go.Proofs.Ytjhnlkmdkjlkdaa.Std Go.Proofs.Ytjhnlkmdkjlkdaa.Comp
set_option linter.unusedSimpArgs false
set_option linter.unusedVariables false
theorem at_idx {l : List Int} {v i : Int} (h : At l v i) (hv : v ∈ l) : i = (l.idxOf v : Int) := by
  obtain ⟨k, rfl, h1, h2⟩ := h.is hv
  have key : ∀ (l : List Int) (k : Nat), l[k]? = some v → v ∉ l.take k → l.idxOf v = k := by
    intro l
    induction l with
    | nil => intro k h; simp at h
    | cons a r ih =>
      intro k h1 h2
      cases k with
      | zero =>
        simp only [List.getElem?_cons_zero, Option.some.injEq] at h1
        subst h1
        simp
      | succ k =>
        rw [List.getElem?_cons_succ] at h1
        rw [List.take_succ_cons, List.mem_cons, not_or] at h2
        rw [List.idxOf_cons]
        have : (a == v) = false := by rw [beq_eq_false_iff_ne]; exact fun e => h2.1 e.symm
        rw [this, cond_false, ih k h1 h2.2]
  rw [key l k h1 h2]
section
variable {n : Nat} {l : List E} {C out : List Int}
theorem lst_cm (hC : C.length = n) (h : ∀ v : Nat, v < n → Lst l v (C.getD v 0)) : ∀ v : Int, 0 ≤ v → v < n → Lst l v (cmf C v) := fun v v0 v1 => by
  obtain ⟨k, rfl⟩ := Int.eq_ofNat_of_zero_le v0
  rw [cmf_at]
  exact h k (by omega)
theorem cm_rng (hends : ∀ e ∈ l, 0 ≤ e.1 ∧ e.1 < n ∧ 0 ≤ e.2.1 ∧ e.2.1 < n) (h : ∀ v : Int, 0 ≤ v → v < n → Lst l v (cmf C v)) : ∀ v : Int, 0 ≤ v → v < n → 0 ≤ cmf C v ∧ cmf C v < n := fun v v0 v1 =>
  Ld.closed (P := fun y => 0 ≤ y ∧ y < n) (fun e he _ => ⟨(hends e he).2.2.1, (hends e he).2.2.2⟩) (h v v0 v1).1 ⟨v0, v1⟩
theorem cm_cm (hends : ∀ e ∈ l, 0 ≤ e.1 ∧ e.1 < n ∧ 0 ≤ e.2.1 ∧ e.2.1 < n) (h : ∀ v : Int, 0 ≤ v → v < n → Lst l v (cmf C v)) : ∀ v : Int, 0 ≤ v → v < n → cmf C (cmf C v) = cmf C v := fun v v0 v1 => by
  obtain ⟨r0, r1⟩ := cm_rng hends h v v0 v1
  have a := h v v0 v1
  exact (h _ r0 r1).uniq ⟨.here, .here, fun x h1 h2 => a.2.2 x (a.1.trans h1) (h2.trans a.2.1)⟩
/-- the order of the knots, as a law has it -/
structure CoF (n : Nat) (l : List E) (C out : List Int) : Prop where
  mem : ∀ v : Nat, v < n → decide ((v : Int) ∈ out) = ((v : Int) == C.getD v 0)
  rng : ∀ v ∈ out, 0 ≤ v ∧ v < n
  nd : out.Nodup
  cin : ∀ v : Int, 0 ≤ v → v < n → cmf C v ∈ out
  edge : ∀ e ∈ l, out.idxOf (cmf C e.1) ≤ out.idxOf (cmf C e.2.1)
  lead : ∀ a b : Int, Ld l a b → out.idxOf (cmf C a) ≤ out.idxOf (cmf C b)
  fix : ∀ v ∈ out, cmf C v = v
theorem co_facts (hends : ∀ e ∈ l, 0 ≤ e.1 ∧ e.1 < n ∧ 0 ≤ e.2.1 ∧ e.2.1 < n) (hC : C.length = n) (h : ∀ v : Nat, v < n → Lst l v (C.getD v 0)) (ho : Od (fun v => cmf C v = v) n (fun u v => ∃ e ∈ cl (cmf C) l, e.1 = u ∧ e.2.1 = v) out) : CoF n l C out := by
  have hm := lst_cm hC h
  have hr := cm_rng hends hm
  have hcc := cm_cm hends hm
  have hall := od_all hm hr hends ho
  refine ⟨fun v hv => ?_, fun v hv => (ho.rng v hv).1, ho.nd, fun v v0 v1 => hall _ (hr v v0 v1).1 (hr v v0 v1).2 (hcc v v0 v1), fun e he => od_edge hr hcc hends ho hall he, fun a b hab => od_lead hr hcc hends ho hall hab, fun v hv => (ho.rng v hv).2⟩
  rw [Bool.eq_iff_iff, decide_eq_true_eq, beq_iff_eq]
  constructor
  · intro hin
    have := (ho.rng _ hin).2
    rw [cmf_at] at this
    exact this.symm
  · intro e
    exact hall v (by omega) (by omega) (by rw [cmf_at]; exact e.symm)
end
/-- the small net -/
theorem two_lst0 : Lst [(0, 1, 5)] 0 0 := ⟨.here, .here, fun x h _ => Ld.closed (P := fun y => 0 ≤ y) (fun e he _ => by rw [List.mem_singleton] at he; subst he; decide) h (by decide)⟩
theorem two_lst1 : Lst [(0, 1, 5)] 1 1 := ⟨.here, .here, fun x h _ => Ld.closed (P := fun y => 1 ≤ y) (fun e he _ => by rw [List.mem_singleton] at he; subst he; decide) h (by decide)⟩
theorem two_od : Od (fun v => cmf [0, 1] v = v) 2 (fun u v => ∃ e ∈ cl (cmf [0, 1]) [(0, 1, 5)], e.1 = u ∧ e.2.1 = v) [0, 1] := by
  have hcl : cl (cmf [0, 1]) [(0, 1, 5)] = [(0, 1, 0)] := by decide
  rw [hcl]
  refine ⟨by decide, by decide, fun i hi u hu => ?_, fun i hi v v0 v1 _ hv _ => ?_, fun v v0 v1 _ hv => ?_⟩
  · obtain ⟨e, he, rfl, h2⟩ := hu
    rw [List.mem_singleton] at he
    subst he
    match i, hi with
    | 0, _ => exact absurd (show (1 : Int) = 0 from h2) (by decide)
    | 1, _ => exact List.mem_singleton.2 rfl
  · match i, hi with
    | 0, _ => exact v0
    | 1, _ =>
      show (1 : Int) ≤ v
      have : v ≠ 0 := fun e => hv (by rw [e]; decide)
      omega
  · exfalso
    have : v = 0 ∨ v = 1 := by omega
    rcases this with rfl | rfl
    · exact hv (by decide)
    · exact hv (by decide)
theorem two_goodC : NetLaw.Good 2 [(0, 1, 5)] := chk_zero.1 (by decide +kernel)
theorem order_two (W : World) (g : Nat) (h : Sl W W.heap.size 3 ce (some ⟨g, 0, none⟩) [(0, 1, 5)]) :
    Calls Try.prog 20 #[.agg #[.int .i64 2, .slice (some ⟨g, 0, none⟩) 1 1]] W fun e w' => ∃ Ao co, e = .returned (.tuple #[.slice Ao 2 co, .int .i64 0]) ∧ Own w' W.heap.size 3 1 ci (.slice Ao 2 co) [0, 1] ∧ Below W.heap.size W w' := by
  refine (order_yes 2 (some ⟨g, 0, none⟩) 1 [(0, 1, 5)] W h two_goodC).mono ?_
  rintro e w' ⟨Ao, co, mo, out, C, h1, h2, h3, h4, h5, h6, h7⟩
  have hC : C = [0, 1] := lst_one (n := 2) (l := [(0, 1, 5)]) rfl h4.out (fun v hv => by
    match v, hv with
    | 0, _ => exact two_lst0
    | 1, _ => exact two_lst1) h5.out
  subst hC
  have ho : out = [0, 1] := h6.out.one two_od (fun _ _ _ => Iff.rfl) (fun _ _ => Iff.rfl)
  subst ho
  obtain rfl : mo = 2 := h3.out.symm
  exact ⟨Ao, co, h1, h2, h7⟩
end Go.Proofs.Ytjhnlkmdkjlkdaa.CompO
