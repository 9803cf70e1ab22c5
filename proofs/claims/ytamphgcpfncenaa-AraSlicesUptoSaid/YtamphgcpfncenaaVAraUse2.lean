/- A search on the small net; plain facts on its end; ways that lead on. -/
import Derived.Test.YtamphgcpfncenaaVAraSame
namespace Go.Proofs.Ytamphgcpfncenaa.AraLaw
open NetLaw BellLaw StarLaw WalkLaw
set_option linter.unusedSimpArgs false
set_option linter.unusedVariables false
section
variable {N tt fr : Nat} {l : List E} {h : List Int} {ws : List (Int × Int)}
theorem Stl.lastD {s a : AS} (h1 : Stl N tt l h ws s a) (hs : s.rds.length < ws.length) (ha : a.rds.length = ws.length) : AraLaw.lastD a = a.sp := by
  induction h1 with
  | over e => omega
  | wait e _ => omega
  | last _ _ _ => unfold AraLaw.lastD told; simp
  | next e _ _ _ ih => exact ih (by simp [again, told]; exact e) ha
/-- behind the last round there are no steps -/
theorem Rn.lastD {k : Nat} {s : AS} (hr : Rn N tt l h ws fr k s) (hw : 0 < ws.length) (ho : s.rds.length = ws.length) : AraLaw.lastD s = k := by
  have hsp := hr.sp
  cases hr with
  | start a =>
    rw [a.lastD (by rw [show (init N h fr).rds = [] from (reach1_rds ..).1]; exact hw) ho, hsp]
  | step _ hl _ hs =>
    rw [hs.lastD (by rw [(expand_rds ..).1]; exact hl) ho, hsp]
/-- a run that is over is as long as any -/
theorem Rn.le_over {k m : Nat} {s s' : AS} (h1 : Rn N tt l h ws fr k s) (h2 : Rn N tt l h ws fr m s') (ho : s'.rds.length = ws.length) : k ≤ m := by
  rcases Nat.lt_or_ge m k with hlt | hge
  · obtain ⟨s0, _, h3, _, h4⟩ := h1.upto m (Nat.le_of_lt hlt)
    have := h4 hlt
    rw [h3.det h2] at this
    omega
  · exact hge
/-- its rounds begin those of the run that is over -/
theorem Rn.prefix_ {k m : Nat} {s s' : AS} (h1 : Rn N tt l h ws fr k s) (h2 : Rn N tt l h ws fr m s') (ho : s'.rds.length = ws.length) : s.rds.length ≤ s'.rds.length ∧ s.rds = s'.rds.take s.rds.length := by
  obtain ⟨s0, r, h3, h4, _⟩ := h2.upto k (h1.le_over h2 ho)
  rw [h3.det h1] at h4
  rw [h4]
  simp
theorem Rn.bound (hC : HeurLaw.Cons N tt l h) (hg : NetLaw.Good N l) (hc : ∀ e ∈ l, 1 ≤ e.2.2) (hfr : fr < N) (htt : tt < N) (hwl : ws.length ≤ 8) (hws : ∀ w ∈ ws, 1 ≤ w.2 ∧ w.2 ≤ w.1) {k : Nat} {s : AS} (hr : Rn N tt l h ws fr k s) : k ≤ 1001 := by
  cases hr with
  | start _ => omega
  | step hr hl _ _ => have := hr.short hC hg hc hfr htt hwl hws hl; omega
end
end Go.Proofs.Ytamphgcpfncenaa.AraLaw
namespace Go.Proofs.Ytamphgcpfncenaa.Ara
open Go.RowKit Go.Proofs.Ytamphgcpfncenaa NetLaw BellLaw StarLaw AraLaw Go.Proofs.Ytamphgcpfncenaa.Net Go.Proofs.Ytamphgcpfncenaa.Std Go.Proofs.Ytamphgcpfncenaa.Flow
open Go.Proofs.Ytamphgcpfncenaa.StarF (slook slook_any slook_zero)
set_option linter.unusedSimpArgs false
set_option linter.unusedVariables false
/-- a search on the small net -/
structure Two (F : Fix) : Prop where
  n : F.n = 2
  t : F.tt = 1
  l : F.l = l2
  h : F.h = [0, 0]
  w : F.ws = [(1, 1)]
theorem two_new (W : World) (g : Nat) (h : Sl W W.heap.size 3 ce (some ⟨g, 0, none⟩) [(0, 1, 5)]) (g1 c1 : Nat) (hh : Sl W W.heap.size 1 ci (some ⟨g1, 0, none⟩) [0, 0]) (g2 c2 : Nat) (hw : Sl W W.heap.size 2 cp (some ⟨g2, 0, none⟩) [(1, 1)]) :
    Calls Try.prog 39 #[.agg #[.int .i64 2, .slice (some ⟨g, 0, none⟩) 1 1], .int .i64 0, .int .i64 1, .slice (some ⟨g1, 0, none⟩) 2 c1, .slice (some ⟨g2, 0, none⟩) 1 c2] W fun e w' => ∃ Z F Y s, e = .returned (.tuple #[.pointer (some ⟨Z, 0, none⟩), .int .i64 0]) ∧ Two F ∧ FO F ∧ PO F 0 ∧ SR W.heap.size w' Z F Y 0 0 s ∧ Below W.heap.size W w' := by
  refine (new_yes 2 0 1 (some ⟨g, 0, none⟩) 1 [(0, 1, 5)] (some ⟨g1, 0, none⟩) c1 [0, 0] (some ⟨g2, 0, none⟩) c2 [(1, 1)] W h (fun e => by cases e) hh (fun e => by cases e) hw (fun e => by cases e) (by decide +kernel) (by decide +kernel)).mono ?_
  rintro e w' ⟨Z, F, Y, s, rfl, e1, e2, e3, e4, e5, hO, hP, sr, hb⟩
  exact ⟨Z, F, Y, s, rfl, ⟨e1, e2, e3, e4, e5⟩, hO, hP, sr, hb⟩
theorem Two.run {F : Fix} (h : Two F) {k : Nat} {s : AS} (hr : Rn F.n F.tt F.l F.h F.ws 0 k s) : Rn 2 1 l2 [0, 0] [(1, 1)] 0 k s := by
  rw [h.n, h.t, h.l, h.h, h.w] at hr
  exact hr
/-- at its begin it is not over -/
theorem Two.begin_ {F : Fix} (h : Two F) {s : AS} (hr : Rn F.n F.tt F.l F.h F.ws 0 0 s) : s.rds.length ≠ F.ws.length := by
  have h1 := (h.run hr).det run_t0
  rw [h1, h.w]
  decide
/-- a step ends it -/
theorem Two.step {F : Fix} (h : Two F) {j : Nat} {s : AS} (hr : Rn F.n F.tt F.l F.h F.ws 0 j s) (h9 : (j : Int) < 9 → s.rds.length = F.ws.length) : j = 1 ∧ s.rds.length = F.ws.length := by
  have hr' := h.run hr
  have hle : j ≤ 1 := hr'.le_over run_t2 rfl
  have ho := h9 (by omega)
  have ho2 : s.rds.length = 1 := by rw [ho, h.w]; rfl
  exact ⟨(over_t hr' ho2).1, ho⟩
end Go.Proofs.Ytamphgcpfncenaa.Ara
