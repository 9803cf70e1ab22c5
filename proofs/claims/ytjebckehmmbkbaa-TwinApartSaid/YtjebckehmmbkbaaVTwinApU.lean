/- What TwinApart's walk wants of the two ways, of the listed ways and of the small net. -/
import Derived.Test.YtjebckehmmbkbaaVTwinCost
import Derived.Test.YtjebckehmmbkbaaVTwinWalksP
import Derived.Test.YtjebckehmmbkbaaVYenUse
import Derived.Test.YtjebckehmmbkbaaVWayUse
namespace Go.Proofs.Ytjebckehmmbkbaa.TwinA
open Go.RowKit Go.Proofs.Ytjebckehmmbkbaa NetLaw BellLaw DijkLaw FlowLaw WalkLaw TwinLaw Go.Proofs.Ytjebckehmmbkbaa.Net Go.Proofs.Ytjebckehmmbkbaa.Std Go.Proofs.Ytjebckehmmbkbaa.PairMap Go.Proofs.Ytjebckehmmbkbaa.TwinP
open Go.Proofs.Ytjebckehmmbkbaa.YenLaw (Smp Top wt)
open Go.Proofs.Ytjebckehmmbkbaa.HeapW
set_option linter.unusedSimpArgs false
set_option linter.unusedVariables false
section
variable {l : List E} {s t x co : Int} {u0 u : List Bool} {p : List Int} {π : Int → Int} {n : Nat}
/-- along used edges the height grows -/
theorem rise2 (h : Fp l s u0 u x co p) (h0 : ∀ i, i < l.length → ub u0 i = true → cpt l i + π (fr l i) - π (en l i) ≤ 0) (hc : ∀ e ∈ l, 1 ≤ e.2.2) (hl : u0.length = l.length) : p.Pairwise (fun a b => π a < π b) ∧ ∀ a ∈ p, π a ≤ π x := by
  induction h with
  | start => exact ⟨List.pairwise_singleton _ _, fun a ha => by rw [List.mem_singleton] at ha; subst ha; exact Int.le_refl _⟩
  | @step u x co p i hp hi hb hf ih =>
    have h1 := h0 i hi ((hp.sub hl).2 i hb)
    have h2 := hc _ (ed_mem hi)
    have h3 : cpt l i = (ed l i).2.2 := rfl
    rw [hf] at h1
    have hlt : π x < π (en l i) := by omega
    refine ⟨?_, fun a ha => ?_⟩
    · rw [List.pairwise_append]
      refine ⟨ih.1, List.pairwise_singleton _ _, fun a ha b hb2 => ?_⟩
      rw [List.mem_singleton] at hb2
      subst hb2
      have := ih.2 a ha
      omega
    · rcases List.mem_append.1 ha with ha | ha
      · have := ih.2 a ha; omega
      · rw [List.mem_singleton] at ha; subst ha; exact Int.le_refl _
theorem smp2 (h : Fp l s u0 u x co p) (h0 : ∀ i, i < l.length → ub u0 i = true → cpt l i + π (fr l i) - π (en l i) ≤ 0) (hc : ∀ e ∈ l, 1 ≤ e.2.2) (hl : u0.length = l.length) (hends : ∀ e ∈ l, 0 ≤ e.1 ∧ e.1 < n ∧ 0 ≤ e.2.1 ∧ e.2.1 < n) (s0 : 0 ≤ s) (s1 : s < n) : Smp n l s x p :=
  ⟨h.head, h.last, (rise2 h h0 hc hl).1.imp (fun {a b} hlt e => by subst e; omega), h.rng hends s0 s1, h.ok⟩
end
/-- what holds of the two ways -/
structure PF (n : Nat) (l : List E) (s t a b : Int) (p1 p2 : List Int) : Prop where
  s1 : Smp n l s t p1
  s2 : Smp n l s t p2
  apt : aptB l p1 p2 = true
  low : ∀ M, Sh n s l M → dg M t ≤ a ∧ dg M t ≤ b
  bd : (0 ≤ a ∧ a ≤ 6000000) ∧ 0 ≤ b ∧ b ≤ 6000000
  least : ∀ x y, Smp n l s t x → Smp n l s t y → aptB l x y = true → a + b ≤ ctwo n l x y
theorem pf_of {n : Nat} {l : List E} {s t a b : Int} {p1 p2 : List Int} {u2 u3 u4 : List Bool} {π : Int → Int} (hg : NetLaw.Good n l) (hc1 : ∀ e ∈ l, 1 ≤ e.2.2) (s0 : 0 ≤ s) (s1 : s < n) (F1 : FolP l s t 2 u2 u3 t a p1) (F2 : FolP l s t 1 u3 u4 t b p2) (hb : BF l s t u2 2) (hs : Slk l u2 π) : PF n l s t a b p1 p2 := by
  have h6 := hg.len
  have hc : ∀ e ∈ l, 1 ≤ e.2.2 ∧ e.2.2 ≤ 10000 := fun e he => ⟨hc1 e he, (hg.cost e he).2⟩
  have hu2 := hb.len
  have hsub := F1.pth.sub hu2
  have k1 := F1.fol.cost
  have k2 := F2.fol.cost
  have n2 := cst_nonneg hc u2
  have n3 := cst_nonneg hc u3
  have n4 := cst_nonneg hc u4
  have r1 : ∀ i, i < l.length → ub u2 i = true → cpt l i + π (fr l i) - π (en l i) ≤ 0 := fun i hi hu => hs.used hi hu
  have e1 := smp2 (n := n) F1.pth r1 hc1 hu2 hg.ends s0 s1
  have e2 := smp2 (n := n) F2.pth (fun i hi hu => r1 i hi (hsub.2 i hu)) hc1 hsub.1 hg.ends s0 s1
  have nn := Go.Proofs.Ytjebckehmmbkbaa.BellSh.wk_nonneg F1.pth.wk (fun e he => by have := hc1 e he; omega)
  have nn2 := Go.Proofs.Ytjebckehmmbkbaa.BellSh.wk_nonneg F2.pth.wk (fun e he => by have := hc1 e he; omega)
  have hfar : (6000000 : Int) < far := by decide
  refine ⟨e1, e2, apt_iff.2 (fp_apt F1.pth F2.pth hu2), fun M hM => ⟨hM.walk_le hg.ends F1.pth.wk (by omega) (fun e he => by have := hc1 e he; omega), hM.walk_le hg.ends F2.pth.wk (by omega) (fun e he => by have := hc1 e he; omega)⟩, ⟨⟨nn, by omega⟩, nn2, by omega⟩, fun x y hx hy hap => ?_⟩
  have h := two_least hs hb hg.ends ⟨hx.head, hx.last, hx.rng⟩ ⟨hy.head, hy.last, hy.rng⟩ (apt_iff.1 hap) (fun a b => ms l a b) (ms_perm l)
  have h2 : cst l u2 ≤ ctwo n l x y := h
  omega
/-- Two in two forms -/
theorem two_c (N s t : Int) (A : Option Addr) (c : Nat) (l : List E) (W : World) (h : Sl W W.heap.size 3 ce A l) (hll : l.length ≤ 9223372036854775807) :
    Calls Try.prog 6 #[.agg #[.int .i64 N, .slice A l.length c], .int .i64 s, .int .i64 t] W fun e w' => ((∃ er, e = .returned (.tuple #[.agg #[.slice none 0 0, .int .i64 0], .agg #[.slice none 0 0, .int .i64 0], .int .i64 er]) ∧ er ≠ 0) ∨ ∃ (n s' t' : Nat) (A1 : Option Addr) (m1 c1 : Nat) (a : Int) (A2 : Option Addr) (m2 c2 : Nat) (b : Int) (p1 p2 : List Int), e = .returned (.tuple #[.agg #[.slice A1 m1 c1, .int .i64 a], .agg #[.slice A2 m2 c2, .int .i64 b], .int .i64 0]) ∧ N = n ∧ s = s' ∧ t = t' ∧ Dijk.look N l [s, t] = 0 ∧ Pt w' W.heap.size A1 m1 p1 ∧ Pt w' W.heap.size A2 m2 p2 ∧ PF n l s t a b p1 p2) ∧ Below W.heap.size W w' := by
  refine (TwinP.two_any N A c l s t W h hll).mono ?_
  rintro e w' ⟨k1, k2, k3, k4⟩
  refine ⟨?_, k4⟩
  by_cases hz : Dijk.look N l [s, t] = 0
  · by_cases hst : s = t
    · exact .inl ⟨1, k2 hz hst, by decide⟩
    · rcases k3 hz hst with ⟨_, he⟩ | ⟨A1, m1, c1, a, A2, m2, c2, b, he, _, p1, p2, u2, u3, u4, π, P1, P2, F1, F2, hb, hs⟩
      · exact .inl ⟨5, he, by decide⟩
      · obtain ⟨hg, hc, ⟨s0, s1⟩, t0, t1⟩ := DijkWay.looks_zero hz
        have hlo := hg.lo
        obtain ⟨n, rfl⟩ := Int.eq_ofNat_of_zero_le (show 0 ≤ N by omega)
        obtain ⟨s, rfl⟩ := Int.eq_ofNat_of_zero_le s0
        obtain ⟨t, rfl⟩ := Int.eq_ofNat_of_zero_le t0
        exact .inr ⟨n, s, t, A1, m1, c1, a, A2, m2, c2, b, p1, p2, he, rfl, rfl, rfl, hz, P1, P2, pf_of hg hc s0 s1 F1 F2 hb hs⟩
  · exact .inl ⟨_, k1 hz, hz⟩
/-- the small net bears one way alone -/
theorem no_two : ¬ ∃ u, BF [(0, 1, 5)] 0 1 u 2 := fun ⟨u, hu⟩ => by
  have hl := hu.len
  have hw := hu.cons (fun x => if x = 0 then 1 else 0)
  match u, hl with
  | [x], _ =>
    cases x
    · exact absurd hw (by decide)
    · exact absurd hw (by decide)
theorem two_one (W : World) (g : Nat) (h : Sl W W.heap.size 3 ce (some ⟨g, 0, none⟩) [(0, 1, 5)]) :
    Calls Try.prog 6 #[.agg #[.int .i64 2, .slice (some ⟨g, 0, none⟩) 1 1], .int .i64 0, .int .i64 1] W fun e w' => e = .returned (.tuple #[.agg #[.slice none 0 0, .int .i64 0], .agg #[.slice none 0 0, .int .i64 0], .int .i64 5]) ∧ Below W.heap.size W w' := by
  refine (TwinP.two_any 2 (some ⟨g, 0, none⟩) 1 [(0, 1, 5)] 0 1 W h (by decide)).mono ?_
  rintro e w' ⟨k1, k2, k3, k4⟩
  rcases k3 (by decide +kernel) (by decide) with ⟨_, he⟩ | ⟨A1, m1, c1, a, A2, m2, c2, b, he, h2, _⟩
  · exact ⟨he, k4⟩
  · obtain ⟨u, hu, _⟩ := h2.is
    exact absurd ⟨u, hu⟩ no_two
theorem apart_one (W : World) (g g1 g2 : Nat) (h : Sl W W.heap.size 3 ce (some ⟨g, 0, none⟩) [(0, 1, 5)]) (h1 : Sl W W.heap.size 1 ci (some ⟨g1, 0, none⟩) [0, 1]) (h2 : Sl W W.heap.size 1 ci (some ⟨g2, 0, none⟩) [0, 1]) :
    Calls Try.prog 4 #[.agg #[.int .i64 2, .slice (some ⟨g, 0, none⟩) 1 1], .slice (some ⟨g1, 0, none⟩) 2 2, .slice (some ⟨g2, 0, none⟩) 2 2] W fun e w' => e = .returned (.tuple #[.bool false, .int .i64 0]) ∧ Below W.heap.size W w' := by
  have k := apart_yes 2 (some ⟨g, 0, none⟩) 1 [(0, 1, 5)] (some ⟨g1, 0, none⟩) (some ⟨g2, 0, none⟩) 2 2 2 2 [0, 1] [0, 1] 5 5 W h h1 h2 rfl rfl (by decide +kernel) (by decide +kernel)
  rw [show aptB [(0, 1, 5)] [0, 1] [0, 1] = false from by decide +kernel] at k
  exact k
/-- the listed ways -/
theorem k_facts {n s t : Nat} {l : List E} {O : List Pop} {er : Int} {p : List Int} (h : Yen.KF n s t 8 l O er) (hlk : Dijk.look n l [(s : Int), (t : Int)] = 0) (hp : Smp n l s t p) : er = 0 ∧ ∀ x ∈ O, Smp n l s t x.2.2 := by
  rcases h with ⟨h1, _⟩ | ⟨_, h1, _⟩ | ⟨_, _, _, n', s', t', e1, e2, e3, h3, h4⟩
  · exact absurd hlk h1
  · omega
  · obtain rfl : n = n' := by omega
    obtain rfl : s = s' := by omega
    obtain rfl : t = t' := by omega
    refine ⟨?_, fun x hx => h3.so _ (List.mem_map.2 ⟨x, hx, rfl⟩)⟩
    rcases h4 with ⟨h5, _⟩ | ⟨_, h5⟩
    · subst h5
      rcases h3.all with h6 | h6
      · simp at h6
      · have := h6 p hp
        simp at this
    · exact h5
theorem look_fstA {N : Int} {l : List E} {a b : Int} (h : Dijk.look N l [a, b] = 0) : Dijk.look N l [a] = 0 := by
  unfold Dijk.look at h ⊢
  split at h
  · rename_i h1; exact absurd h h1
  · rename_i h1
    rw [if_neg h1]
    simp only [Dijk.lookE] at h ⊢
    split at h
    · omega
    · rename_i h2; rw [if_neg h2]
theorem getD_dgA (D : List Int) (v : Nat) : D.getD v 0 = dg D (v : Int) := by rw [dg, Int.toNat_natCast]
end Go.Proofs.Ytjebckehmmbkbaa.TwinA
