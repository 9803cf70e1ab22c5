/- twin.Two as the laws call it. -/
import Derived.Test.YtjhnlkmdkjlkdaaTwinWalks
namespace Go.Proofs.Ytjhnlkmdkjlkdaa.Twin
open Go.RowKit Go.Proofs.Ytjhnlkmdkjlkdaa NetLaw BellLaw FlowLaw TwinLaw Go.Proofs.Ytjhnlkmdkjlkdaa.Net Go.Proofs.Ytjhnlkmdkjlkdaa.Std
set_option linter.unusedSimpArgs false
set_option linter.unusedVariables false
theorem good_tl {N : Int} {l : List E} (h : NetLaw.Good N l) : NetLaw.Good N (tl l) := by
  refine ⟨h.lo, h.hi, by rw [tl_len]; exact h.len, fun e he => ?_, fun e he => ?_⟩
  · unfold tl at he; rw [List.mem_map] at he; obtain ⟨x, hx, rfl⟩ := he
    have := h.ends x hx
    exact ⟨this.2.2.1, this.2.2.2, this.1, this.2.1⟩
  · unfold tl at he; rw [List.mem_map] at he; obtain ⟨x, hx, rfl⟩ := he
    exact h.cost x hx
theorem posE_tl (l : List E) : Dijk.posE (tl l) = Dijk.posE l := by
  induction l with
  | nil => rfl
  | cons e r ih =>
    have h : tl (e :: r) = (e.2.1, e.1, e.2.2) :: tl r := rfl
    rw [h, Dijk.posE, Dijk.posE, ih]
/-- what Two tells -/
def TF (N : Int) (l : List E) (s t a b er : Int) : Prop :=
  (Dijk.look N l [s, t] ≠ 0 → er = Dijk.look N l [s, t] ∧ a = 0 ∧ b = 0) ∧ (Dijk.look N l [s, t] = 0 → s = t → er = 1 ∧ a = 0 ∧ b = 0) ∧
  (Dijk.look N l [s, t] = 0 → s ≠ t → ((¬ ∃ u, BF l s t u 2) ∧ er = 5 ∧ a = 0 ∧ b = 0) ∨ (er = 0 ∧ Two l s t (a + b)))
theorem two_some (N s t : Int) (A : Option Addr) (c : Nat) (l : List E) (W : World) (h : Sl W W.heap.size 3 ce A l) (hll : l.length ≤ 9223372036854775807) :
    Calls Try.prog 28 #[.agg #[.int .i64 N, .slice A l.length c], .int .i64 s, .int .i64 t] W fun e w' => ∃ A1 m1 c1 a A2 m2 c2 b er, e = .returned (.tuple #[.agg #[.slice A1 m1 c1, .int .i64 a], .agg #[.slice A2 m2 c2, .int .i64 b], .int .i64 er]) ∧ Below W.heap.size W w' ∧ Hid (TF N l s t a b er) := by
  refine (two_any N A c l s t W h hll).mono ?_
  rintro e w' ⟨k1, k2, k3, k4⟩
  by_cases hz : Dijk.look N l [s, t] = 0
  · by_cases hst : s = t
    · exact ⟨_, _, _, 0, _, _, _, 0, 1, k2 hz hst, k4, Lib.hid ⟨fun h => absurd hz h, fun _ _ => ⟨rfl, rfl, rfl⟩, fun _ h => absurd hst h⟩⟩
    · rcases k3 hz hst with ⟨hno, he⟩ | ⟨A1, m1, c1, a, A2, m2, c2, b, he, h2⟩
      · exact ⟨_, _, _, 0, _, _, _, 0, 5, he, k4, Lib.hid ⟨fun h => absurd hz h, fun _ h => absurd h hst, fun _ _ => .inl ⟨hno, rfl, rfl, rfl⟩⟩⟩
      · exact ⟨A1, m1, c1, a, A2, m2, c2, b, 0, he, k4, Lib.hid ⟨fun h => absurd hz h, fun _ h => absurd h hst, fun _ _ => .inr ⟨rfl, h2⟩⟩⟩
  · exact ⟨_, _, _, 0, _, _, _, 0, _, k1 hz, k4, Lib.hid ⟨fun _ => ⟨rfl, rfl, rfl⟩, fun h => absurd h hz, fun h => absurd h hz⟩⟩
theorem lookE2 (N a b : Int) : Dijk.lookE N [a, b] = Dijk.lookE N [b, a] := by
  simp only [Dijk.lookE]
  split <;> split <;> rfl
theorem look_tl {N : Int} {l : List E} (hg : NetLaw.Good N l) (s t : Int) : Dijk.look N (tl l) [t, s] = Dijk.look N l [s, t] := by
  have h1 : chk N l = 0 := chk_zero.2 hg
  have h2 : chk N (tl l) = 0 := chk_zero.2 (good_tl hg)
  have hp : Dijk.pos N (tl l) = Dijk.pos N l := by
    rw [Dijk.pos, Dijk.pos, if_neg (by rw [h2]; exact fun h => h rfl), if_neg (by rw [h1]; exact fun h => h rfl), posE_tl]
  rw [Dijk.look, Dijk.look, hp, lookE2]
theorem tf_turn {N : Int} {l : List E} {s t a b er a' b' er' : Int} (hg : NetLaw.Good N l) (h : TF N l s t a b er) (h' : TF N (tl l) t s a' b' er') : er = er' ∧ a + b = a' + b' := by
  obtain ⟨k1, k2, k3⟩ := h
  obtain ⟨j1, j2, j3⟩ := h'
  rw [look_tl hg] at j1 j2 j3
  by_cases hz : Dijk.look N l [s, t] = 0
  · by_cases hst : s = t
    · obtain ⟨e1, e2, e3⟩ := k2 hz hst
      obtain ⟨f1, f2, f3⟩ := j2 hz hst.symm
      omega
    · rcases k3 hz hst with ⟨no, e1, e2, e3⟩ | ⟨e1, e2⟩
      · rcases j3 hz (fun e => hst e.symm) with ⟨_, f1, f2, f3⟩ | ⟨f1, f2⟩
        · omega
        · obtain ⟨u, hu, _⟩ := f2.is
          refine absurd ⟨u, ?_⟩ no
          have := hu.turn
          rwa [FlowLaw.tl_tl] at this
      · rcases j3 hz (fun e => hst e.symm) with ⟨no, _⟩ | ⟨f1, f2⟩
        · obtain ⟨u, hu, _⟩ := e2.is
          exact absurd ⟨u, hu.turn⟩ no
        · exact ⟨by omega, e2.turn f2⟩
  · obtain ⟨e1, e2, e3⟩ := k1 hz
    obtain ⟨f1, f2, f3⟩ := j1 hz
    omega
theorem tf_chk {N : Int} {l : List E} {s t a b er : Int} (hc : chk N l ≠ 0) (h : TF N l s t a b er) : er = chk N l := by
  have hp : Dijk.pos N l = chk N l := by rw [Dijk.pos, if_pos hc]
  have hl : Dijk.look N l [s, t] = chk N l := by rw [Dijk.look, if_pos (by rw [hp]; exact hc), hp]
  rw [← hl]
  exact (h.1 (by rw [hl]; exact hc)).1
/-- the small net -/
abbrev l54 : List E := [(0, 1, 5), (0, 1, 4)]
theorem good54 : NetLaw.Good 2 l54 := chk_zero.1 (by decide)
theorem bf54 : BF l54 0 1 [true, true] 2 := ⟨rfl, fun φ => by
  have e : Wb l54 [true, true] φ = 0 + (φ 0 - φ 1) + (φ 0 - φ 1) := rfl
  rw [e]; omega⟩
theorem tf54 {a b er : Int} (h : TF 2 l54 0 1 a b er) : er = 0 ∧ a + b = 9 := by
  have hz : Dijk.look 2 l54 [0, 1] = 0 := by decide
  rcases h.2.2 hz (by decide) with ⟨no, _⟩ | ⟨h1, h2⟩
  · exact absurd ⟨_, bf54⟩ no
  · refine ⟨h1, ?_⟩
    obtain ⟨u, hu, hc⟩ := h2.is
    have hl := hu.len
    have hw := hu.cons (fun x => if x = 0 then 1 else 0)
    match u, hl with
    | [x, y], _ =>
      cases x <;> cases y
      · exact absurd hw (by decide)
      · exact absurd hw (by decide)
      · exact absurd hw (by decide)
      · rw [← hc]; decide
end Go.Proofs.Ytjhnlkmdkjlkdaa.Twin
