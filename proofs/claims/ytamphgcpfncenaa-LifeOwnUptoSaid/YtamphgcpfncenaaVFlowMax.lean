/- The walks of flow.look, flow.Max and flow.Cut. -/
import Derived.Test.YtamphgcpfncenaaVFlowFull
import Derived.Test.YtamphgcpfncenaaVDijkWalks
import Derived.BigQuiet
namespace Go.Proofs.Ytamphgcpfncenaa.Flow
open Go.RowKit Go.Proofs.Ytamphgcpfncenaa NetLaw FlowLaw FlowBfs Go.Proofs.Ytamphgcpfncenaa.Net Go.Proofs.Ytamphgcpfncenaa.Std Go.Proofs.Ytamphgcpfncenaa.Queue
set_option linter.unusedSimpArgs false
set_option linter.unusedVariables false
theorem pos_good {N : Int} {l : List E} (hg : NetLaw.Good N l) (hc : ∀ e ∈ l, 1 ≤ e.2.2) : Dijk.pos N l = 0 := by
  have h0 : Dijk.posE l = 0 := by
    clear hg
    induction l with
    | nil => rfl
    | cons e r ih =>
      have := hc e (by simp)
      rw [Dijk.posE, if_neg (by omega)]
      exact ih fun x hx => hc x (by simp [hx])
  rw [Dijk.pos, if_neg (by simpa using chk_zero.2 hg)]; exact h0
theorem lookE_zero {N : Int} {ps : List Int} : Dijk.lookE N ps = 0 ↔ ∀ v ∈ ps, 0 ≤ v ∧ v < N := by
  induction ps with
  | nil => simp [Dijk.lookE]
  | cons x r ih =>
    unfold Dijk.lookE
    by_cases h : x < 0 ∨ N ≤ x
    · rw [if_pos h]
      constructor
      · intro h1; omega
      · intro h1; have := h1 x (List.mem_cons_self ..); omega
    · rw [if_neg h, ih]
      constructor
      · intro h1 y hy
        rcases List.mem_cons.1 hy with rfl | hy
        · omega
        · exact h1 y hy
      · intro h1 y hy; exact h1 y (List.mem_cons_of_mem _ hy)
theorem look_good {N : Int} {l : List E} {ps : List Int} (hg : NetLaw.Good N l) (hc : ∀ e ∈ l, 1 ≤ e.2.2) (hp : ∀ v ∈ ps, 0 ≤ v ∧ v < N) : Dijk.look N l ps = 0 := by
  have h1 := pos_good hg hc
  rw [Dijk.look, if_neg (by simpa using h1)]; exact lookE_zero.2 hp
/-- the fault that is told -/
def ferr (N : Int) (l : List E) (s t : Int) : Int := if Dijk.look N l [s, t] ≠ 0 then Dijk.look N l [s, t] else if s = t then 1 else 0
theorem ferr_zero {N s t : Int} {l : List E} : ferr N l s t = 0 ↔ NetLaw.Good N l ∧ (∀ e ∈ l, 1 ≤ e.2.2) ∧ (0 ≤ s ∧ s < N) ∧ (0 ≤ t ∧ t < N) ∧ s ≠ t := by
  have hlk : Dijk.look N l [s, t] = 0 ↔ NetLaw.Good N l ∧ (∀ e ∈ l, 1 ≤ e.2.2) ∧ (0 ≤ s ∧ s < N) ∧ (0 ≤ t ∧ t < N) := by
    constructor
    · intro h
      have h0 := h
      unfold Dijk.look at h
      split at h
      · rename_i h1; exact absurd h h1
      · rename_i h1
        have hs : Dijk.look N l [s] = 0 := by
          unfold Dijk.look
          rw [if_neg h1]
          unfold Dijk.lookE at h ⊢
          split at h
          · cases h
          · rename_i h2; rw [if_neg h2]; rfl
        obtain ⟨a, b, c, d⟩ := Dijk.look_zero hs
        unfold Dijk.lookE Dijk.lookE at h
        split at h
        · cases h
        · split at h
          · cases h
          · rename_i h3; exact ⟨a, b, ⟨c, d⟩, by omega⟩
    · rintro ⟨a, b, c, d⟩
      exact look_good a b (by intro y hy; simp at hy; rcases hy with rfl | rfl <;> omega)
  unfold ferr
  by_cases h : Dijk.look N l [s, t] = 0
  · rw [if_neg (fun hn => hn h)]
    obtain ⟨a, b, c, d⟩ := hlk.1 h
    by_cases hst : s = t
    · rw [if_pos hst]; exact ⟨fun h => (by cases h), fun h => absurd hst h.2.2.2.2⟩
    · rw [if_neg hst]; exact ⟨fun _ => ⟨a, b, c, d, hst⟩, fun _ => rfl⟩
  · rw [if_pos h]
    exact ⟨fun h' => absurd h' h, fun h' => absurd (hlk.2 ⟨h'.1, h'.2.1, h'.2.2.1, h'.2.2.2.1⟩) h⟩

def MaxSays (N s t : Int) (l : List E) (w : World) (e : Ending) (w' : World) : Prop :=
  (ferr N l s t ≠ 0 → e = .returned (.tuple #[.int .i64 0, .slice none 0 0, .int .i64 (ferr N l s t)])) ∧
  (ferr N l s t = 0 → ∃ v Sf F, e = .returned (.tuple #[.int .i64 v, .slice (some ⟨Sf, 0, none⟩) l.length l.length, .int .i64 0]) ∧ Own w' w.heap.size 3 1 ci (.slice (some ⟨Sf, 0, none⟩) l.length l.length) F ∧ Hid (Mx l s t v ∧ Fw l s t F v)) ∧ Below w.heap.size w w'

end Go.Proofs.Ytamphgcpfncenaa.Flow
