/- flow.Max as the laws call it. -/
import Derived.Test.YtjhnlkmdkjlkdaaFlowMax
import Derived.Test.YtjhnlkmdkjlkdaaRefs
namespace Go.Proofs.Ytjhnlkmdkjlkdaa.Flow
open Go.RowKit Go.Proofs.Ytjhnlkmdkjlkdaa NetLaw FlowLaw FlowBfs Go.Proofs.Ytjhnlkmdkjlkdaa.Net Go.Proofs.Ytjhnlkmdkjlkdaa.Std Go.Proofs.Ytjhnlkmdkjlkdaa.Refs
set_option linter.unusedSimpArgs false
set_option linter.unusedVariables false
/-- what Max tells -/
def MaxFact (N s t : Int) (l : List E) (v er : Int) : Prop := er = ferr N l s t ∧ (er ≠ 0 → v = 0) ∧ (er = 0 → Mx l s t v)
theorem max_some (N s t : Int) (A : Option Addr) (c : Nat) (l : List E) (W : World) (h : Sl W W.heap.size 3 ce A l) (hll : l.length ≤ 9223372036854775807) :
    Calls Try.prog 30 #[.agg #[.int .i64 N, .slice A l.length c], .int .i64 s, .int .i64 t] W fun e w' => ∃ v A' n' c' er, e = .returned (.tuple #[.int .i64 v, .slice A' n' c', .int .i64 er]) ∧ Below W.heap.size W w' ∧ Hid (MaxFact N s t l v er) := by
  refine (max_any N s t A c l W h hll).mono ?_
  rintro e w' ⟨k1, k2, k3⟩
  by_cases hz : ferr N l s t = 0
  · obtain ⟨v, Sf, F, e1, _, e3⟩ := k2 hz
    exact ⟨v, _, _, _, 0, e1, k3, Lib.hid ⟨hz.symm, fun h => absurd rfl h, fun _ => e3.out.1⟩⟩
  · exact ⟨0, _, _, _, _, k1 hz, k3, Lib.hid ⟨rfl, fun _ => rfl, fun h => absurd h hz⟩⟩
theorem good_two : NetLaw.Good 2 [(0, 1, 5)] := chk_zero.1 (by decide)
theorem two_err (s t : Int) (hs : 0 ≤ s ∧ s < 2) (ht : 0 ≤ t ∧ t < 2) (hst : s ≠ t) : ferr 2 [(0, 1, 5)] s t = 0 := ferr_zero.2 ⟨good_two, by simp, hs, ht, hst⟩
theorem max_two (W : World) (g : Nat) (h : Sl W W.heap.size 3 ce (some ⟨g, 0, none⟩) [(0, 1, 5)]) :
    Calls Try.prog 30 #[.agg #[.int .i64 2, .slice (some ⟨g, 0, none⟩) 1 1], .int .i64 0, .int .i64 1] W fun e w' => ∃ S, e = .returned (.tuple #[.int .i64 5, .slice (some ⟨S, 0, none⟩) 1 1, .int .i64 0]) ∧ Own w' W.heap.size 3 1 ci (.slice (some ⟨S, 0, none⟩) 1 1) [5] ∧ Below W.heap.size W w' := by
  refine (max_any 2 0 1 (some ⟨g, 0, none⟩) 1 [(0, 1, 5)] W h (by decide)).mono ?_
  rintro e w' ⟨_, k2, k3⟩
  obtain ⟨v, Sf, F, e1, e2, e3⟩ := k2 (two_err 0 1 (by decide) (by decide) (by decide))
  obtain ⟨⟨_, S, hs, ht, hc⟩, hf⟩ := e3.out
  have hv : v = 5 := by
    rw [← hc]
    have e : C [(0, 1, 5)] S = 0 + (if S (fr [(0, 1, 5)] 0) = true ∧ S (en [(0, 1, 5)] 0) = false then cpt [(0, 1, 5)] 0 else 0) := rfl
    rw [e, if_pos ⟨hs, ht⟩]
    rfl
  subst hv
  have hF : F = [5] := by
    have hl := hf.len
    have h1 := hf.cons (fun x => if x = 0 then 1 else 0)
    match F, hl with
    | [x], _ =>
      have e : FlowLaw.W [(0, 1, 5)] [x] (fun x => if x = 0 then 1 else 0) = 0 + x * ((if (0 : Int) = 0 then 1 else 0) - (if (1 : Int) = 0 then 1 else 0)) := rfl
      rw [e] at h1
      simp at h1
      rw [h1]
  subst hF
  exact ⟨Sf, e1, e2, k3⟩
theorem max_two0 (W : World) (g : Nat) (h : Sl W W.heap.size 3 ce (some ⟨g, 0, none⟩) [(0, 1, 5)]) :
    Calls Try.prog 30 #[.agg #[.int .i64 2, .slice (some ⟨g, 0, none⟩) 1 1], .int .i64 1, .int .i64 0] W fun e w' => ∃ A n c, e = .returned (.tuple #[.int .i64 0, .slice A n c, .int .i64 0]) ∧ Below W.heap.size W w' := by
  refine (max_any 2 1 0 (some ⟨g, 0, none⟩) 1 [(0, 1, 5)] W h (by decide)).mono ?_
  rintro e w' ⟨_, k2, k3⟩
  obtain ⟨v, Sf, F, e1, e2, e3⟩ := k2 (two_err 1 0 (by decide) (by decide) (by decide))
  obtain ⟨⟨_, S, hs, ht, hc⟩, hf⟩ := e3.out
  have hv : v = 0 := by
    rw [← hc]
    have e : C [(0, 1, 5)] S = 0 + (if S (fr [(0, 1, 5)] 0) = true ∧ S (en [(0, 1, 5)] 0) = false then cpt [(0, 1, 5)] 0 else 0) := rfl
    have e2 : S (fr [(0, 1, 5)] 0) = false := ht
    rw [e, if_neg (by rw [e2]; simp)]
    rfl
  subst hv
  exact ⟨_, _, _, e1, k3⟩
theorem good_tl {N : Int} {l : List E} (h : NetLaw.Good N l) : NetLaw.Good N (tl l) := by
  refine ⟨h.lo, h.hi, by rw [tl_len]; exact h.len, fun e he => ?_, fun e he => ?_⟩
  · unfold tl at he; rw [List.mem_map] at he; obtain ⟨x, hx, rfl⟩ := he
    have := h.ends x hx
    exact ⟨this.2.2.1, this.2.2.2, this.1, this.2.1⟩
  · unfold tl at he; rw [List.mem_map] at he; obtain ⟨x, hx, rfl⟩ := he
    exact h.cost x hx
theorem tl_mem {l : List E} (hc : ∀ e ∈ l, 1 ≤ e.2.2) : ∀ e ∈ tl l, 1 ≤ e.2.2 := fun e he => by
  unfold tl at he
  rw [List.mem_map] at he
  obtain ⟨x, hx, rfl⟩ := he
  exact hc x hx
theorem posE_val (l : List E) : Dijk.posE l = 0 ∨ Dijk.posE l = 4 := by
  induction l with
  | nil => exact .inl rfl
  | cons e r ih =>
    unfold Dijk.posE
    split
    · exact .inr rfl
    · exact ih
theorem posE_tl (l : List E) : Dijk.posE (tl l) = Dijk.posE l := by
  induction l with
  | nil => rfl
  | cons e r ih =>
    show Dijk.posE ((e.2.1, e.1, e.2.2) :: tl r) = _
    unfold Dijk.posE
    rw [ih]
theorem ferr_tl {N s t : Int} {l : List E} (hg : NetLaw.Good N l) : ferr N (tl l) t s = ferr N l s t := by
  have h1 := chk_zero.2 hg
  have h2 := chk_zero.2 (good_tl hg)
  have hp : Dijk.pos N (tl l) = Dijk.pos N l := by unfold Dijk.pos; rw [h1, h2, posE_tl]
  have hl : Dijk.look N (tl l) [t, s] = Dijk.look N l [s, t] := by
    unfold Dijk.look
    rw [hp]
    split
    · rfl
    · unfold Dijk.lookE Dijk.lookE Dijk.lookE
      repeat' split
      all_goals first | rfl | omega
  unfold ferr
  rw [hl]
  split
  · rfl
  · by_cases e : s = t
    · rw [if_pos e, if_pos e.symm]
    · rw [if_neg e, if_neg (fun h => e h.symm)]
theorem max_turn {N s t : Int} {l : List E} (hg : NetLaw.Good N l) {v er v' er' : Int} (h : MaxFact N s t l v er) (h' : MaxFact N t s (tl l) v' er') : v' = v ∧ er' = er := by
  obtain ⟨h1, h2, h3⟩ := h
  obtain ⟨h4, h5, h6⟩ := h'
  rw [ferr_tl hg] at h4
  have he : er' = er := h4.trans h1.symm
  refine ⟨?_, he⟩
  by_cases h0 : er = 0
  · exact ((h3 h0).turn (h6 (by rw [he]; exact h0))).symm
  · rw [h2 h0, h5 (by rw [he]; exact h0)]
theorem max_chk {N s t : Int} {l : List E} (hc : chk N l ≠ 0) {v er : Int} (h : MaxFact N s t l v er) : v = 0 ∧ er = chk N l := by
  obtain ⟨h1, h2, _⟩ := h
  have hp : Dijk.pos N l = chk N l := by unfold Dijk.pos; rw [if_pos hc]
  have hl : Dijk.look N l [s, t] = chk N l := by unfold Dijk.look; rw [hp, if_pos hc]
  have he : er = chk N l := by rw [h1]; unfold ferr; rw [hl, if_pos hc]
  exact ⟨h2 (by rw [he]; exact hc), he⟩
end Go.Proofs.Ytjhnlkmdkjlkdaa.Flow
