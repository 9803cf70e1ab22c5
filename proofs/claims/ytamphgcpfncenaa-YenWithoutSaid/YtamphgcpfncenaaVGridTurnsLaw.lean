/- Plain facts on grids turned over, the right side left. -/
import Derived.Test.YtamphgcpfncenaaVGridBackLaw
namespace Go.Proofs.Ytamphgcpfncenaa.GridLaw
set_option linter.unusedSimpArgs false
set_option linter.unusedVariables false
/-- a place turned over -/
def ov (W v : Int) : Int := v / W * W + W - 1 - v % W
theorem ov_at {W x : Int} (y : Int) (h0 : 0 ≤ x) (h1 : x < W) : ov W (y * W + x) = y * W + (W - 1 - x) := by
  obtain ⟨e1, e2⟩ := un_idx y h0 h1
  unfold ov
  rw [e1, e2]
  omega
theorem place {W H v : Int} (hW : 1 ≤ W) (h0 : 0 ≤ v) (h1 : v < W * H) : ∃ x y, 0 ≤ x ∧ x < W ∧ 0 ≤ y ∧ y < H ∧ v = y * W + x := by
  refine ⟨v % W, v / W, Int.emod_nonneg _ (by omega), Int.emod_lt_of_pos _ (by omega), Int.ediv_nonneg h0 (by omega), Int.ediv_lt_of_lt_mul (by omega) (by rw [Int.mul_comm]; omega), ?_⟩
  exact (Int.ediv_mul_add_emod v W).symm
theorem ov_bd {W H v : Int} (hW : 1 ≤ W) (h0 : 0 ≤ v) (h1 : v < W * H) : 0 ≤ ov W v ∧ ov W v < W * H ∧ ov W (ov W v) = v := by
  obtain ⟨x, y, x0, x1, y0, y1, rfl⟩ := place hW h0 h1
  rw [ov_at y x0 x1, ov_at y (by omega) (by omega)]
  obtain ⟨a, b⟩ := idx_bd (H := H) hW (show 0 ≤ W - 1 - x by omega) (by omega) y0 y1
  exact ⟨a, b, by omega⟩
/-- l', where the places below k have been turned over -/
def MirTo (W : Int) (l l' : List Int) (k : Nat) : Prop := l'.length = l.length ∧ ∀ v : Nat, v < k → v < l.length → l'.getD (ov W v).toNat 0 = l.getD v 0
theorem MirTo.step {W H : Int} {l l' : List Int} {k j : Nat} {z : Int} (h : MirTo W l l' k) (hW : 1 ≤ W) (hlen : (l.length : Int) = W * H) (hk : k < l.length) (hj : ov W k = (j : Int)) (hz : l[k] = z) : MirTo W l (l'.set j z) (k + 1) := by
  refine ⟨by rw [List.length_set]; exact h.1, fun v hv hvl => ?_⟩
  have hjl : j < l'.length := by
    have := (ov_bd (H := H) hW (show (0 : Int) ≤ k by omega) (by omega)).2.1
    have := h.1
    omega
  by_cases he : v = k
  · subst he
    rw [hj, Int.toNat_natCast, List.getD_eq_getElem?_getD, List.getElem?_set_self hjl, List.getD_eq_getElem?_getD, List.getElem?_eq_getElem hvl, hz]
  · rw [← h.2 v (by omega) hvl, List.getD_eq_getElem?_getD, List.getD_eq_getElem?_getD, List.getElem?_set_ne]
    intro e
    apply he
    obtain ⟨a, b, c⟩ := ov_bd (H := H) hW (show (0 : Int) ≤ v by omega) (by omega)
    obtain ⟨a', b', c'⟩ := ov_bd (H := H) hW (show (0 : Int) ≤ k by omega) (by omega)
    have : ov W v = ov W k := by omega
    rw [this, c'] at c
    omega
theorem gr_mir {W H : Int} {l l' : List Int} (hg : GGood W H l) (h : MirTo W l l' l.length) (x y : Int) : gr W H l' (W - 1 - x) y = gr W H l x y := by
  unfold gr
  by_cases ho : x < 0 ∨ W ≤ x ∨ y < 0 ∨ H ≤ y
  · rw [if_pos ho, if_pos (by omega)]
  · rw [if_neg ho, if_neg (by omega)]
    have hb := idx_bd (H := H) hg.w1 (show 0 ≤ x by omega) (by omega) (show 0 ≤ y by omega) (by omega)
    have hlen := hg.len
    have hv := h.2 (y * W + x).toNat (by omega) (by omega)
    rw [← hv]
    congr 2
    rw [Int.toNat_of_nonneg hb.1, ov_at y (by omega) (by omega)]
theorem good_mir {W H : Int} {l l' : List Int} (hg : GGood W H l) (h : MirTo W l l' l.length) : GGood W H l' := by
  refine ⟨hg.w1, hg.w8, hg.h1, hg.h8, by rw [h.1]; exact hg.len, fun c hc => ?_⟩
  obtain ⟨i, hi, rfl⟩ := List.getElem_of_mem hc
  have hi2 := hi
  rw [h.1] at hi2
  have hlen := hg.len
  obtain ⟨a, b, e⟩ := ov_bd (H := H) hg.w1 (show (0 : Int) ≤ i by omega) (by omega)
  have hv := h.2 (ov W i).toNat (by omega) (by omega)
  rw [Int.toNat_of_nonneg a, e, Int.toNat_natCast, List.getD_eq_getElem?_getD, List.getElem?_eq_getElem hi, Option.getD_some] at hv
  rw [hv, List.getD_eq_getElem?_getD, List.getElem?_eq_getElem (by omega)]
  exact hg.cell _ (List.getElem_mem _)
/-- a move turned over -/
def tov (W : Int) (e : E) : E := (ov W e.1, ov W e.2.1, e.2.2)
def ms (s : Int × Int) : Int × Int := (-s.1, s.2)
theorem mvS_mir {W H : Int} {l l' : List Int} (hg : GGood W H l) (h : MirTo W l l' l.length) {x y : Int} (hn : gr W H l x y ≠ 0) (s : Int × Int) :
    mvS W H l' (W - 1 - x) y (ms s) = (mvS W H l x y s).map (tov W) := by
  obtain ⟨x0, x1, y0, y1⟩ := gr_in hn
  obtain ⟨a, b⟩ := s
  have e1 : W - 1 - x + -a = W - 1 - (x + a) := by omega
  unfold mvS
  simp only [ms, e1, gr_mir hg h]
  by_cases h1 : gr W H l (x + a) (y + b) = 0
  · rw [if_pos h1, if_pos h1]; rfl
  · obtain ⟨u0, u1, v0, v1⟩ := gr_in h1
    rw [if_neg h1, if_neg h1]
    have t1 : tov W (y * W + x, (y + b) * W + x + a, 7 * (gr W H l x y + gr W H l (x + a) (y + b))) = (y * W + (W - 1 - x), (y + b) * W + (W - 1 - x) + -a, 7 * (gr W H l x y + gr W H l (x + a) (y + b))) := by
      unfold tov
      simp only [Prod.mk.injEq, and_true]
      refine ⟨ov_at y x0 x1, ?_⟩
      rw [Int.add_assoc, ov_at (y + b) u0 u1]
      omega
    have t2 : tov W (y * W + x, (y + b) * W + x + a, 5 * (gr W H l x y + gr W H l (x + a) (y + b))) = (y * W + (W - 1 - x), (y + b) * W + (W - 1 - x) + -a, 5 * (gr W H l x y + gr W H l (x + a) (y + b))) := by
      unfold tov
      simp only [Prod.mk.injEq, and_true]
      refine ⟨ov_at y x0 x1, ?_⟩
      rw [Int.add_assoc, ov_at (y + b) u0 u1]
      omega
    by_cases h2 : a ≠ 0 ∧ b ≠ 0
    · rw [if_pos h2, if_pos (by omega)]
      split
      · rfl
      · rw [Option.map_some, t1]
    · rw [if_neg h2, if_neg (by omega), Option.map_some, t2]
theorem st_mir : (st.map ms).Perm st := by decide
theorem mv_mir {W H : Int} {l l' : List Int} (hg : GGood W H l) (h : MirTo W l l' l.length) (x y : Int) : ((mv W H l x y).map (tov W)).Perm (mv W H l' (W - 1 - x) y) := by
  unfold mv
  rw [gr_mir hg h]
  by_cases hn : gr W H l x y = 0
  · rw [if_pos hn, if_pos hn]; exact List.Perm.refl _
  · rw [if_neg hn, if_neg hn, List.map_filterMap]
    have e : (fun s => (mvS W H l x y s).map (tov W)) = (mvS W H l' (W - 1 - x) y) ∘ ms := funext fun s => (mvS_mir hg h hn s).symm
    rw [e, ← List.filterMap_map]
    exact st_mir.filterMap _
theorem mv_turn {W H a : Int} {l l' : List Int} (hg : GGood W H l) (h : MirTo W l l' l.length) (ha0 : 0 ≤ a) (ha1 : a < l.length) :
    GGood W H l' ∧ 0 ≤ ov W a ∧ ov W a < l.length ∧ (mv W H l' (ov W a % W) (ov W a / W)).length = (mv W H l (a % W) (a / W)).length ∧
    ∀ f t k, (f, t, k) ∈ mv W H l (a % W) (a / W) → (0 ≤ f ∧ f < l.length ∧ 0 ≤ t ∧ t < l.length) ∧ (ov W f, ov W t, k) ∈ mv W H l' (ov W a % W) (ov W a / W) := by
  have hlen := hg.len
  rw [hlen] at ha1
  obtain ⟨b0, b1, b2⟩ := ov_bd hg.w1 ha0 ha1
  obtain ⟨x, y, x0, x1, y0, y1, e⟩ := place hg.w1 ha0 ha1
  obtain ⟨e1, e2⟩ := un_idx y x0 x1
  obtain ⟨e3, e4⟩ := un_idx y (show 0 ≤ W - 1 - x by omega) (show W - 1 - x < W by omega)
  have eo := ov_at y x0 x1
  rw [← e] at e1 e2 eo
  rw [← eo] at e3 e4
  have hp := mv_mir hg h x y
  rw [e1, e2, e3, e4]
  refine ⟨good_mir hg h, b0, by omega, ?_, fun f t k hm => ⟨?_, ?_⟩⟩
  · rw [← hp.length_eq, List.length_map]
  · obtain ⟨hf, t0, t1, _⟩ := mv_back hm
    rw [← e] at hf
    omega
  · exact hp.subset (List.mem_map.2 ⟨(f, t, k), hm, rfl⟩)
end Go.Proofs.Ytamphgcpfncenaa.GridLaw
