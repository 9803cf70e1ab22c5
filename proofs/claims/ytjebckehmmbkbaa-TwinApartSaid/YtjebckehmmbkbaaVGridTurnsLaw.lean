/- Plain facts on grids: no Go in sight. -/
/- Plain facts on moves: every move has its move back. -/
/- Plain facts on grids turned over, the right side left. -/
import Derived.RowKit
namespace Go.Proofs.Ytjebckehmmbkbaa.GridLaw
set_option linter.unusedSimpArgs false
set_option linter.unusedVariables false
def badC (c : Int) : Bool := decide (c < 0) || decide (9 < c)
/-- what Check answers -/
def gchk (W H : Int) (l : List Int) : Int := if W < 1 ∨ 8 < W ∨ H < 1 ∨ 8 < H then 1 else if (l.length : Int) ≠ W * H then 3 else if l.any badC then 4 else 0
/-- a right grid -/
structure GGood (W H : Int) (l : List Int) : Prop where
  w1 : 1 ≤ W
  w8 : W ≤ 8
  h1 : 1 ≤ H
  h8 : H ≤ 8
  len : (l.length : Int) = W * H
  cell : ∀ c ∈ l, 0 ≤ c ∧ c ≤ 9
theorem gchk_zero {W H : Int} {l : List Int} : gchk W H l = 0 ↔ GGood W H l := by
  unfold gchk
  constructor
  · intro h
    split at h
    · omega
    · split at h
      · omega
      · split at h
        · omega
        · rename_i h1 h2 h3
          refine ⟨by omega, by omega, by omega, by omega, by omega, fun c hc => ?_⟩
          have : badC c = false := by
            cases hb : badC c with
            | false => rfl
            | true => exact absurd (List.any_eq_true.2 ⟨c, hc, hb⟩) (by simpa using h3)
          simp only [badC, Bool.or_eq_false_iff, decide_eq_false_iff_not] at this
          omega
  · intro h
    have := h.w1; have := h.w8; have := h.h1; have := h.h8
    have hl := h.len
    rw [if_neg (by omega), if_neg (by simpa using hl), if_neg]
    rw [List.any_eq_true]
    rintro ⟨c, hc, hb⟩
    have := h.cell c hc
    simp only [badC, Bool.or_eq_true, decide_eq_true_eq] at hb
    omega
/-- the ground of a place -/
def gr (W H : Int) (l : List Int) (x y : Int) : Int := if x < 0 ∨ W ≤ x ∨ y < 0 ∨ H ≤ y then 0 else l.getD (y * W + x).toNat 0
theorem gr_bd {W H : Int} {l : List Int} (h : GGood W H l) (x y : Int) : 0 ≤ gr W H l x y ∧ gr W H l x y ≤ 9 := by
  unfold gr
  split
  · omega
  · rw [List.getD_eq_getElem?_getD]
    rcases Nat.lt_or_ge (y * W + x).toNat l.length with hl | hl
    · rw [List.getElem?_eq_getElem hl]
      exact h.cell _ (List.getElem_mem hl)
    · rw [List.getElem?_eq_none hl]; simp
theorem idx_bd {W H : Int} {x y : Int} (hw : 1 ≤ W) (hx : 0 ≤ x) (hx2 : x < W) (hy : 0 ≤ y) (hy2 : y < H) : 0 ≤ y * W + x ∧ y * W + x < W * H := by
  have h1 : 0 ≤ y * W := Int.mul_nonneg hy (by omega)
  have h2 : (y + 1) * W ≤ H * W := Int.mul_le_mul_of_nonneg_right (by omega) (by omega)
  rw [Int.add_mul, Int.mul_comm H W] at h2
  omega

abbrev E := Int × Int × Int
/-- the steps all round -/
def st : List (Int × Int) := [(0, -1), (1, -1), (1, 0), (1, 1), (0, 1), (-1, 1), (-1, 0), (-1, -1)]
/-- one move, if it can be made -/
def mvS (W H : Int) (l : List Int) (x y : Int) (s : Int × Int) : Option E :=
  if gr W H l (x + s.1) (y + s.2) = 0 then none
  else if s.1 ≠ 0 ∧ s.2 ≠ 0 then
    if gr W H l (x + s.1) y = 0 ∨ gr W H l x (y + s.2) = 0 then none else some (y * W + x, (y + s.2) * W + x + s.1, 7 * (gr W H l x y + gr W H l (x + s.1) (y + s.2)))
  else some (y * W + x, (y + s.2) * W + x + s.1, 5 * (gr W H l x y + gr W H l (x + s.1) (y + s.2)))
/-- the moves from a place -/
def mv (W H : Int) (l : List Int) (x y : Int) : List E := if gr W H l x y = 0 then [] else st.filterMap (mvS W H l x y)
theorem mv_succ (f : Int × Int → Option E) {k : Nat} {s : Int × Int} (h : st[k]? = some s) : (st.take (k + 1)).filterMap f = (st.take k).filterMap f ++ (match f s with | none => [] | some e => [e]) := by
  rw [List.take_add_one, h, List.filterMap_append]
  congr 1
  cases hf : f s <;> simp [hf]
theorem mv_len (f : Int × Int → Option E) (k : Nat) : ((st.take k).filterMap f).length ≤ 8 :=
  Nat.le_trans (List.length_filterMap_le _ _) (Nat.le_trans (List.length_take_le' _ _) (by decide))
end Go.Proofs.Ytjebckehmmbkbaa.GridLaw

namespace Go.Proofs.Ytjebckehmmbkbaa.GridLaw
set_option linter.unusedSimpArgs false
set_option linter.unusedVariables false
theorem gr_in {W H : Int} {l : List Int} {x y : Int} (h : gr W H l x y ≠ 0) : 0 ≤ x ∧ x < W ∧ 0 ≤ y ∧ y < H := by
  unfold gr at h
  split at h
  · exact absurd rfl h
  · omega
theorem un_idx {W x : Int} (y : Int) (h0 : 0 ≤ x) (h1 : x < W) : (y * W + x) % W = x ∧ (y * W + x) / W = y := by
  constructor
  · rw [Int.add_comm, Int.add_mul_emod_self_right]
    exact Int.emod_eq_of_lt h0 h1
  · rw [Int.add_comm, Int.add_mul_ediv_right _ _ (by omega), Int.ediv_eq_zero_of_lt h0 h1, Int.zero_add]
theorem st_neg : ∀ s ∈ st, (-s.1, -s.2) ∈ st := by decide
theorem mvS_some {W H : Int} {l : List Int} {x y : Int} {s : Int × Int} {f t k : Int} (h : mvS W H l x y s = some (f, t, k)) :
    f = y * W + x ∧ t = (y + s.2) * W + (x + s.1) ∧ gr W H l (x + s.1) (y + s.2) ≠ 0 := by
  unfold mvS at h
  split at h
  · cases h
  · rename_i h0
    split at h
    · split at h
      · cases h
      · simp only [Option.some.injEq, Prod.mk.injEq] at h
        exact ⟨h.1.symm, by omega, h0⟩
    · simp only [Option.some.injEq, Prod.mk.injEq] at h
      exact ⟨h.1.symm, by omega, h0⟩
theorem mvS_back {W H : Int} {l : List Int} {x y : Int} {s : Int × Int} {f t k : Int} (hg : gr W H l x y ≠ 0) (h : mvS W H l x y s = some (f, t, k)) :
    mvS W H l (x + s.1) (y + s.2) (-s.1, -s.2) = some (t, f, k) := by
  obtain ⟨hf, ht, hn⟩ := mvS_some h
  unfold mvS at h ⊢
  rw [if_neg hn] at h
  simp only [Int.add_neg_cancel_right]
  rw [if_neg hg]
  obtain ⟨a, b⟩ := s
  simp only at *
  by_cases hd : a ≠ 0 ∧ b ≠ 0
  · rw [if_pos hd] at h
    rw [if_pos (by omega)]
    split at h
    · cases h
    · rename_i h2
      simp only [Option.some.injEq, Prod.mk.injEq] at h
      rw [if_neg (by omega)]
      simp only [Option.some.injEq, Prod.mk.injEq]
      omega
  · rw [if_neg hd] at h
    rw [if_neg (by omega)]
    simp only [Option.some.injEq, Prod.mk.injEq] at h ⊢
    omega
theorem mem_mv {W H : Int} {l : List Int} {x y : Int} {e : E} : e ∈ mv W H l x y ↔ gr W H l x y ≠ 0 ∧ ∃ s ∈ st, mvS W H l x y s = some e := by
  unfold mv
  split
  · simp_all
  · rename_i h
    rw [List.mem_filterMap]
    exact ⟨fun h' => ⟨h, h'⟩, fun h' => h'.2⟩
theorem mv_back {W H : Int} {l : List Int} {x y f t k : Int} (h : (f, t, k) ∈ mv W H l x y) :
    f = y * W + x ∧ 0 ≤ t ∧ t < W * H ∧ (t, f, k) ∈ mv W H l (t % W) (t / W) := by
  obtain ⟨hg, s, hs, hm⟩ := mem_mv.1 h
  obtain ⟨hf, ht, hn⟩ := mvS_some hm
  obtain ⟨x0, x1, y0, y1⟩ := gr_in hn
  obtain ⟨e1, e2⟩ := un_idx (y + s.2) x0 x1
  have hb := idx_bd (H := H) (by omega) x0 x1 y0 y1
  rw [← ht] at e1 e2 hb
  refine ⟨hf, hb.1, hb.2, ?_⟩
  rw [e1, e2]
  exact mem_mv.2 ⟨hn, _, st_neg s hs, mvS_back hg hm⟩
theorem mv_eight (W H : Int) (l : List Int) (x y : Int) : (mv W H l x y).length ≤ 8 := by
  unfold mv
  split
  · simp
  · exact Nat.le_trans (List.length_filterMap_le _ _) (by decide)
end Go.Proofs.Ytjebckehmmbkbaa.GridLaw

namespace Go.Proofs.Ytjebckehmmbkbaa.GridLaw
set_option linter.unusedSimpArgs false
set_option linter.unusedVariables false
/-- a place turned over -/
def ov (W v : Int) : Int := v / W * W + W - 1 - v % W
theorem ov_at {W x : Int} (y : Int) (h0 : 0 ≤ x) (h1 : x < W) : ov W (y * W + x) = y * W + (W - 1 - x) := by
  obtain ⟨e1, e2⟩ := un_idx y h0 h1
  unfold ov
  rw [e1, e2]
  omega
theorem place {W H v : Int} (hW : 1 ≤ W) (h0 : 0 ≤ v) (h1 : v < W * H) : ∃ x y, 0 ≤ x ∧ x < W ∧ 0 ≤ y ∧ y < H ∧ v = y * W + x := by
  refine ⟨v % W, v / W, Int.emod_nonneg _ (by omega), Int.emod_lt_of_pos _ (by omega), Int.ediv_nonneg h0 (by omega), Int.ediv_lt_of_lt_mul (by omega) (by rw [Int.mul_comm]; omega), ?_⟩
  exact (Int.ediv_mul_add_emod v W).symm
theorem ov_bd {W H v : Int} (hW : 1 ≤ W) (h0 : 0 ≤ v) (h1 : v < W * H) : 0 ≤ ov W v ∧ ov W v < W * H ∧ ov W (ov W v) = v := by
  obtain ⟨x, y, x0, x1, y0, y1, rfl⟩ := place hW h0 h1
  rw [ov_at y x0 x1, ov_at y (by omega) (by omega)]
  obtain ⟨a, b⟩ := idx_bd (H := H) hW (show 0 ≤ W - 1 - x by omega) (by omega) y0 y1
  exact ⟨a, b, by omega⟩
/-- l', where the places below k have been turned over -/
def MirTo (W : Int) (l l' : List Int) (k : Nat) : Prop := l'.length = l.length ∧ ∀ v : Nat, v < k → v < l.length → l'.getD (ov W v).toNat 0 = l.getD v 0
theorem MirTo.step {W H : Int} {l l' : List Int} {k j : Nat} {z : Int} (h : MirTo W l l' k) (hW : 1 ≤ W) (hlen : (l.length : Int) = W * H) (hk : k < l.length) (hj : ov W k = (j : Int)) (hz : l[k] = z) : MirTo W l (l'.set j z) (k + 1) := by
  refine ⟨by rw [List.length_set]; exact h.1, fun v hv hvl => ?_⟩
  have hjl : j < l'.length := by
    have := (ov_bd (H := H) hW (show (0 : Int) ≤ k by omega) (by omega)).2.1
    have := h.1
    omega
  by_cases he : v = k
  · subst he
    rw [hj, Int.toNat_natCast, List.getD_eq_getElem?_getD, List.getElem?_set_self hjl, List.getD_eq_getElem?_getD, List.getElem?_eq_getElem hvl, hz]
  · rw [← h.2 v (by omega) hvl, List.getD_eq_getElem?_getD, List.getD_eq_getElem?_getD, List.getElem?_set_ne]
    intro e
    apply he
    obtain ⟨a, b, c⟩ := ov_bd (H := H) hW (show (0 : Int) ≤ v by omega) (by omega)
    obtain ⟨a', b', c'⟩ := ov_bd (H := H) hW (show (0 : Int) ≤ k by omega) (by omega)
    have : ov W v = ov W k := by omega
    rw [this, c'] at c
    omega
theorem gr_mir {W H : Int} {l l' : List Int} (hg : GGood W H l) (h : MirTo W l l' l.length) (x y : Int) : gr W H l' (W - 1 - x) y = gr W H l x y := by
  unfold gr
  by_cases ho : x < 0 ∨ W ≤ x ∨ y < 0 ∨ H ≤ y
  · rw [if_pos ho, if_pos (by omega)]
  · rw [if_neg ho, if_neg (by omega)]
    have hb := idx_bd (H := H) hg.w1 (show 0 ≤ x by omega) (by omega) (show 0 ≤ y by omega) (by omega)
    have hlen := hg.len
    have hv := h.2 (y * W + x).toNat (by omega) (by omega)
    rw [← hv]
    congr 2
    rw [Int.toNat_of_nonneg hb.1, ov_at y (by omega) (by omega)]
theorem good_mir {W H : Int} {l l' : List Int} (hg : GGood W H l) (h : MirTo W l l' l.length) : GGood W H l' := by
  refine ⟨hg.w1, hg.w8, hg.h1, hg.h8, by rw [h.1]; exact hg.len, fun c hc => ?_⟩
  obtain ⟨i, hi, rfl⟩ := List.getElem_of_mem hc
  have hi2 := hi
  rw [h.1] at hi2
  have hlen := hg.len
  obtain ⟨a, b, e⟩ := ov_bd (H := H) hg.w1 (show (0 : Int) ≤ i by omega) (by omega)
  have hv := h.2 (ov W i).toNat (by omega) (by omega)
  rw [Int.toNat_of_nonneg a, e, Int.toNat_natCast, List.getD_eq_getElem?_getD, List.getElem?_eq_getElem hi, Option.getD_some] at hv
  rw [hv, List.getD_eq_getElem?_getD, List.getElem?_eq_getElem (by omega)]
  exact hg.cell _ (List.getElem_mem _)
/-- a move turned over -/
def tov (W : Int) (e : E) : E := (ov W e.1, ov W e.2.1, e.2.2)
def ms (s : Int × Int) : Int × Int := (-s.1, s.2)
theorem mvS_mir {W H : Int} {l l' : List Int} (hg : GGood W H l) (h : MirTo W l l' l.length) {x y : Int} (hn : gr W H l x y ≠ 0) (s : Int × Int) :
    mvS W H l' (W - 1 - x) y (ms s) = (mvS W H l x y s).map (tov W) := by
  obtain ⟨x0, x1, y0, y1⟩ := gr_in hn
  obtain ⟨a, b⟩ := s
  have e1 : W - 1 - x + -a = W - 1 - (x + a) := by omega
  unfold mvS
  simp only [ms, e1, gr_mir hg h]
  by_cases h1 : gr W H l (x + a) (y + b) = 0
  · rw [if_pos h1, if_pos h1]; rfl
  · obtain ⟨u0, u1, v0, v1⟩ := gr_in h1
    rw [if_neg h1, if_neg h1]
    have t1 : tov W (y * W + x, (y + b) * W + x + a, 7 * (gr W H l x y + gr W H l (x + a) (y + b))) = (y * W + (W - 1 - x), (y + b) * W + (W - 1 - x) + -a, 7 * (gr W H l x y + gr W H l (x + a) (y + b))) := by
      unfold tov
      simp only [Prod.mk.injEq, and_true]
      refine ⟨ov_at y x0 x1, ?_⟩
      rw [Int.add_assoc, ov_at (y + b) u0 u1]
      omega
    have t2 : tov W (y * W + x, (y + b) * W + x + a, 5 * (gr W H l x y + gr W H l (x + a) (y + b))) = (y * W + (W - 1 - x), (y + b) * W + (W - 1 - x) + -a, 5 * (gr W H l x y + gr W H l (x + a) (y + b))) := by
      unfold tov
      simp only [Prod.mk.injEq, and_true]
      refine ⟨ov_at y x0 x1, ?_⟩
      rw [Int.add_assoc, ov_at (y + b) u0 u1]
      omega
    by_cases h2 : a ≠ 0 ∧ b ≠ 0
    · rw [if_pos h2, if_pos (by omega)]
      split
      · rfl
      · rw [Option.map_some, t1]
    · rw [if_neg h2, if_neg (by omega), Option.map_some, t2]
theorem st_mir : (st.map ms).Perm st := by decide
theorem mv_mir {W H : Int} {l l' : List Int} (hg : GGood W H l) (h : MirTo W l l' l.length) (x y : Int) : ((mv W H l x y).map (tov W)).Perm (mv W H l' (W - 1 - x) y) := by
  unfold mv
  rw [gr_mir hg h]
  by_cases hn : gr W H l x y = 0
  · rw [if_pos hn, if_pos hn]; exact List.Perm.refl _
  · rw [if_neg hn, if_neg hn, List.map_filterMap]
    have e : (fun s => (mvS W H l x y s).map (tov W)) = (mvS W H l' (W - 1 - x) y) ∘ ms := funext fun s => (mvS_mir hg h hn s).symm
    rw [e, ← List.filterMap_map]
    exact st_mir.filterMap _
theorem mv_turn {W H a : Int} {l l' : List Int} (hg : GGood W H l) (h : MirTo W l l' l.length) (ha0 : 0 ≤ a) (ha1 : a < l.length) :
    GGood W H l' ∧ 0 ≤ ov W a ∧ ov W a < l.length ∧ (mv W H l' (ov W a % W) (ov W a / W)).length = (mv W H l (a % W) (a / W)).length ∧
    ∀ f t k, (f, t, k) ∈ mv W H l (a % W) (a / W) → (0 ≤ f ∧ f < l.length ∧ 0 ≤ t ∧ t < l.length) ∧ (ov W f, ov W t, k) ∈ mv W H l' (ov W a % W) (ov W a / W) := by
  have hlen := hg.len
  rw [hlen] at ha1
  obtain ⟨b0, b1, b2⟩ := ov_bd hg.w1 ha0 ha1
  obtain ⟨x, y, x0, x1, y0, y1, e⟩ := place hg.w1 ha0 ha1
  obtain ⟨e1, e2⟩ := un_idx y x0 x1
  obtain ⟨e3, e4⟩ := un_idx y (show 0 ≤ W - 1 - x by omega) (show W - 1 - x < W by omega)
  have eo := ov_at y x0 x1
  rw [← e] at e1 e2 eo
  rw [← eo] at e3 e4
  have hp := mv_mir hg h x y
  rw [e1, e2, e3, e4]
  refine ⟨good_mir hg h, b0, by omega, ?_, fun f t k hm => ⟨?_, ?_⟩⟩
  · rw [← hp.length_eq, List.length_map]
  · obtain ⟨hf, t0, t1, _⟩ := mv_back hm
    rw [← e] at hf
    omega
  · exact hp.subset (List.mem_map.2 ⟨(f, t, k), hm, rfl⟩)
end Go.Proofs.Ytjebckehmmbkbaa.GridLaw
