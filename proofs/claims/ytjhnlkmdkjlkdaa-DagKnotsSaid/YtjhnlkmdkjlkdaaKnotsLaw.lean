/- Plain: there is a topological order just if all knots are single places without loops; then it is the order of the knots. -/
import Derived.Test.YtjhnlkmdkjlkdaaCompOUse
namespace Go.Proofs.Ytjhnlkmdkjlkdaa.KnotsLaw
open NetLaw BellLaw DagLaw CompLaw CompOrd Go.Proofs.Ytjhnlkmdkjlkdaa.CompO
set_option linter.unusedSimpArgs false
set_option linter.unusedVariables false
theorem Ld.head {l : List E} {a b : Int} (h : Ld l a b) : a = b ∨ ∃ e ∈ l, e.1 = a ∧ Ld l e.2.1 b := by
  induction h with
  | here => exact .inl rfl
  | @step u e hau he hu ih =>
    rcases ih with rfl | ⟨x, hx, h1, h2⟩
    · exact .inr ⟨e, he, hu, .here⟩
    · exact .inr ⟨x, hx, h1, h2.step he hu⟩
abbrev PE (l : List E) : Int → Int → Prop := fun u v => ∃ e ∈ l, e.1 = u ∧ e.2.1 = v
section
variable {n : Nat} {l : List E} {C o o' : List Int}
theorem full {o : List Int} (hn : o.Nodup) (hr : ∀ v ∈ o, 0 ≤ v ∧ v < n) (hl : o.length = n) {v : Int} (v0 : 0 ≤ v) (v1 : v < n) : v ∈ o := by
  refine Classical.byContradiction fun hv => ?_
  have h1 : ((v :: o).map Int.toNat).Nodup := by
    rw [List.Nodup, List.pairwise_map]
    refine List.Pairwise.imp_of_mem (fun {x y} hx hy hxy e => hxy ?_) (List.nodup_cons.2 ⟨hv, hn⟩)
    have a : 0 ≤ x := by rcases List.mem_cons.1 hx with rfl | h; exact v0; exact (hr x h).1
    have b : 0 ≤ y := by rcases List.mem_cons.1 hy with rfl | h; exact v0; exact (hr y h).1
    omega
  have h3 := FloydLaw.nodup_len h1 (k := n) (fun m hm => by
    rw [List.mem_map] at hm
    obtain ⟨y, hy, rfl⟩ := hm
    rcases List.mem_cons.1 hy with rfl | h
    · omega
    · have := hr y h; omega)
  simp at h3
  omega
/-- each place is a knot by itself, and has no edge to itself -/
theorem single_all (hends : ∀ e ∈ l, 0 ≤ e.1 ∧ e.1 < n ∧ 0 ≤ e.2.1 ∧ e.2.1 < n) (hm : ∀ v : Int, 0 ≤ v → v < n → Lst l v (cmf C v)) (hs : ∀ e ∈ l, cmf C e.1 ≠ cmf C e.2.1) (ho : Od (fun _ => True) n (PE l) o) : n ≤ o.length := by
  refine all_len fun v v0 v1 => ho.all (rk n l) (fun u v huv => ?_) v v0 v1 trivial
  obtain ⟨e, he, rfl, rfl⟩ := huv
  obtain ⟨e0, e1, e2, e3⟩ := hends e he
  exact ⟨⟨e0, e1, trivial⟩, rk_lt (.edge he) e2 e3 fun hc => hs e he (((hm _ e0 e1).same (hm _ e2 e3)).2 ⟨.edge he, hc⟩)⟩
theorem all_single (hends : ∀ e ∈ l, 0 ≤ e.1 ∧ e.1 < n ∧ 0 ≤ e.2.1 ∧ e.2.1 < n) (hm : ∀ v : Int, 0 ≤ v → v < n → Lst l v (cmf C v)) (ho : Od (fun _ => True) n (PE l) o) (hl : o.length = n) : ∀ e ∈ l, cmf C e.1 ≠ cmf C e.2.1 := fun e he hc => by
  obtain ⟨e0, e1, e2, e3⟩ := hends e he
  have hin := fun {v : Int} (a : 0 ≤ v) (b : v < n) => full ho.nd (fun v hv => (ho.rng v hv).1) hl a b
  have hback := (((hm _ e0 e1).same (hm _ e2 e3)).1 hc).2
  have key : ∀ {a b : Int}, Ld l a b → o.idxOf a ≤ o.idxOf b := by
    intro a b hab
    induction hab with
    | here => exact Nat.le_refl _
    | @step u x _ hx hu ih =>
      have h1 := ho.ahead (u := u) (v := x.2.1) ⟨x, hx, hu, rfl⟩ (hin (hends x hx).2.2.1 (hends x hx).2.2.2)
      omega
  have h1 := ho.ahead (u := e.1) (v := e.2.1) ⟨e, he, rfl, rfl⟩ (hin e2 e3)
  have h2 := key hback
  omega
theorem single_fix (hends : ∀ e ∈ l, 0 ≤ e.1 ∧ e.1 < n ∧ 0 ≤ e.2.1 ∧ e.2.1 < n) (hm : ∀ v : Int, 0 ≤ v → v < n → Lst l v (cmf C v)) (hs : ∀ e ∈ l, cmf C e.1 ≠ cmf C e.2.1) : ∀ v : Int, 0 ≤ v → v < n → cmf C v = v := fun v v0 v1 => by
  have h := hm v v0 v1
  rcases Ld.head h.1 with h1 | ⟨e, he, h1, h2⟩
  · exact h1.symm
  · exfalso
    obtain ⟨e0, e1, e2, e3⟩ := hends e he
    refine hs e he (((hm _ e0 e1).same (hm _ e2 e3)).2 ⟨.edge he, ?_⟩)
    rw [h1]
    exact h2.trans h.2.1
theorem single_same (hends : ∀ e ∈ l, 0 ≤ e.1 ∧ e.1 < n ∧ 0 ≤ e.2.1 ∧ e.2.1 < n) (hm : ∀ v : Int, 0 ≤ v → v < n → Lst l v (cmf C v)) (hs : ∀ e ∈ l, cmf C e.1 ≠ cmf C e.2.1) (ho : Od (fun _ => True) n (PE l) o) (ho' : Od (fun v => cmf C v = v) n (fun u v => ∃ e ∈ cl (cmf C) l, e.1 = u ∧ e.2.1 = v) o') : o = o' := by
  have hf := single_fix hends hm hs
  refine ho.one ho' (fun v v0 v1 => ⟨fun _ => hf v v0 v1, fun _ => trivial⟩) (fun u v => ?_)
  rw [cl_mem]
  constructor
  · rintro ⟨e, he, rfl, rfl⟩
    obtain ⟨e0, e1, e2, e3⟩ := hends e he
    exact ⟨e, he, hf _ e0 e1, hf _ e2 e3, fun hc => hs e he (by rw [hc])⟩
  · rintro ⟨e, he, rfl, rfl, _⟩
    obtain ⟨e0, e1, e2, e3⟩ := hends e he
    exact ⟨e, he, (hf _ e0 e1).symm, (hf _ e2 e3).symm⟩
/-- the closure's question -/
def PK (C : List Int) (e : E) : Bool := dg C e.1 == dg C e.2.1
theorem pk_any : l.any (PK C) = false ↔ ∀ e ∈ l, cmf C e.1 ≠ cmf C e.2.1 := by
  rw [List.any_eq_false]
  constructor
  · intro h e he hc
    exact h e he (by unfold PK; rw [beq_iff_eq]; exact hc)
  · intro h e he hc
    unfold PK at hc
    rw [beq_iff_eq] at hc
    exact h e he hc
/-- both answers together -/
theorem knots (hends : ∀ e ∈ l, 0 ≤ e.1 ∧ e.1 < n ∧ 0 ≤ e.2.1 ∧ e.2.1 < n) (hC : C.length = n) (h : ∀ v : Nat, v < n → Lst l v (C.getD v 0)) (ho : Od (fun _ => True) n (PE l) o) (ho' : Od (fun v => cmf C v = v) n (fun u v => ∃ e ∈ cl (cmf C) l, e.1 = u ∧ e.2.1 = v) o') : (o.length = n → l.any (PK C) = false ∧ o = o') ∧ (o.length < n → l.any (PK C) = true) := by
  have hm := lst_cm hC h
  refine ⟨fun hl => ?_, fun hl => ?_⟩
  · have hs := all_single hends hm ho hl
    exact ⟨pk_any.2 hs, single_same hends hm hs ho ho'⟩
  · cases hx : l.any (PK C) with
    | true => rfl
    | false =>
      have := single_all hends hm (pk_any.1 hx) ho
      omega
end
/-- a loop: no order -/
theorem loop_no {o : List Int} (ho : Od (fun _ => True) 1 (PE [(0, 0, 0)]) o) : o.length < 1 := by
  refine Classical.byContradiction fun hc => ?_
  have h0 : 0 < o.length := by omega
  have hr := (ho.rng _ (List.getElem_mem h0)).1
  have := ho.fwd 0 h0 0 ⟨(0, 0, 0), by simp, rfl, by show (0 : Int) = o[0]; omega⟩
  simp at this
end Go.Proofs.Ytjhnlkmdkjlkdaa.KnotsLaw
