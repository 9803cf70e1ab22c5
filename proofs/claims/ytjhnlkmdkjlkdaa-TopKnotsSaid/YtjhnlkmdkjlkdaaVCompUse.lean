/- What a law wants of comp.Of. -/
import Derived.Test.YtjhnlkmdkjlkdaaVCompOf
import Derived.Test.YtjhnlkmdkjlkdaaVCompReach
import Derived.Test.YtjhnlkmdkjlkdaaVStdI
import Derived.Test.YtjhnlkmdkjlkdaaVNetTurn
namespace Go.Proofs.Ytjhnlkmdkjlkdaa.Comp
open Go.RowKit Go.Proofs.Ytjhnlkmdkjlkdaa NetLaw CompLaw FloydLaw Go.Proofs.Ytjhnlkmdkjlkdaa.Net Go.Proofs.Ytjhnlkmdkjlkdaa.Std
set_option linter.unusedSimpArgs false
set_option linter.unusedVariables false
abbrev L3 : List E := [(1, 2, 0), (2, 1, 0)]
theorem three_good : NetLaw.Good 3 L3 := chk_zero.1 (by decide +kernel)
theorem three_zero : Lst L3 0 0 := ⟨.here, .here, fun x h _ => by
  have : x = 0 := Ld.closed (P := fun y => y = 0) (fun e he h0 => by
    rcases List.mem_cons.1 he with rfl | he
    · exact absurd h0 (by decide)
    · rw [List.mem_singleton] at he; subst he; exact absurd h0 (by decide)) h rfl
  omega⟩
theorem three_up {a : Int} (ha : 1 ≤ a) {x : Int} (h : Ld L3 a x) : 1 ≤ x :=
  Ld.closed (P := fun y => 1 ≤ y) (fun e he _ => by
    rcases List.mem_cons.1 he with rfl | he
    · decide
    · rw [List.mem_singleton] at he; subst he; decide) h ha
theorem three_one : Lst L3 1 1 := ⟨.here, .here, fun x h _ => three_up (by decide) h⟩
theorem three_two : Lst L3 2 1 := ⟨Ld.edge (e := (2, 1, 0)) (by simp [L3]), Ld.edge (e := (1, 2, 0)) (by simp [L3]), fun x h _ => three_up (by decide) h⟩
/-- the least ones of all knots: one list -/
theorem lst_one {n : Nat} {l : List E} {L M : List Int} (hL : L.length = n) (hM : M.length = n) (h1 : ∀ v : Nat, v < n → Lst l v (L.getD v 0)) (h2 : ∀ v : Nat, v < n → Lst l v (M.getD v 0)) : M = L := by
  refine List.ext_getElem (by omega) fun i a b => ?_
  have h := (h2 i (by omega)).uniq (h1 i (by omega))
  rw [List.getD_eq_getElem?_getD, List.getD_eq_getElem?_getD, List.getElem?_eq_getElem a, List.getElem?_eq_getElem b] at h
  exact h
theorem lst_turn {n : Nat} {l : List E} {L M : List Int} (hL : L.length = n) (hM : M.length = n) (h1 : ∀ v : Nat, v < n → Lst l v (L.getD v 0)) (h2 : ∀ v : Nat, v < n → Lst (tl l) v (M.getD v 0)) : M = L :=
  lst_one hL hM (fun v hv => (h1 v hv).turn) h2
theorem turned_good {N : Int} {l : List E} (hg : NetLaw.Good N l) : NetLaw.Good N (tl l) := by
  refine ⟨hg.lo, hg.hi, by rw [tl_len]; exact hg.len, fun e he => ?_, fun e he => ?_⟩
  · obtain ⟨x, hx, rfl⟩ := List.mem_map.1 he
    have := hg.ends x hx
    exact ⟨this.2.2.1, this.2.2.2, this.1, this.2.1⟩
  · obtain ⟨x, hx, rfl⟩ := List.mem_map.1 he
    exact hg.cost x hx
theorem of_three (W : World) (g : Nat) (h : Sl W W.heap.size 3 ce (some ⟨g, 0, none⟩) L3) :
    Calls Try.prog 15 #[.agg #[.int .i64 3, .slice (some ⟨g, 0, none⟩) 2 2]] W fun e w' => ∃ S, e = .returned (.tuple #[.slice (some ⟨S, 0, none⟩) 3 3, .int .i64 0]) ∧ Own w' W.heap.size 3 1 ci (.slice (some ⟨S, 0, none⟩) 3 3) [0, 1, 1] ∧ Below W.heap.size W w' := by
  refine (of_yes 3 (some ⟨g, 0, none⟩) 2 L3 W h three_good).mono ?_
  rintro e w' ⟨S, L, h1, h2, h3, h4, h5⟩
  have : L = [0, 1, 1] := lst_one (n := 3) (l := L3) rfl h3.out (fun v hv => by
    match v, hv with
    | 0, _ => exact three_zero
    | 1, _ => exact three_one
    | 2, _ => exact three_two) h4.out
  subst this
  exact ⟨S, h1, h2, h5⟩
/-- as the law of mutual walks has it -/
theorem same_leads {n : Nat} {l : List E} {L : List Int} {edge : E → Bool} (he : ∀ e, edge e = true) (hg : NetLaw.Good n l) (h1 : ∀ v : Nat, v < n → Lst l v (L.getD v 0)) {i j : Nat} (hi : i < n) (hj : j < n) : (L.getD i 0 == L.getD j 0) = (clo or and false true edge n l i j && clo or and false true edge n l j i) := by
  have h := (h1 i hi).same (h1 j hj)
  have a := reach_ld he hg hi hj
  have b := reach_ld he hg hj hi
  rw [Bool.eq_iff_iff, beq_iff_eq, Bool.and_eq_true, a, b]
  exact h
end Go.Proofs.Ytjhnlkmdkjlkdaa.Comp
