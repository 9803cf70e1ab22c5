/- The walks of package grid: Check, ground. -/
/- The array of steps round a place: grid.steps. -/
/- The walk of grid.Moves. -/
import Derived.Test.YtpoolpaagbeokaaVSlice
import Derived.Test.YtpoolpaagbeokaaVGridTurnsLaw
namespace Go.Proofs.Ytpoolpaagbeokaa.Grid
open Go.RowKit Go.Proofs.Ytpoolpaagbeokaa GridLaw
set_option linter.unusedSimpArgs false
set_option linter.unusedVariables false

set_option maxRecDepth 100000 in
set_option maxHeartbeats 1000000 in
theorem check_any (W H : Int) (A : Option Addr) (c : Nat) (l : List Int) (w : World) (hl : Sl w w.heap.size 1 ci A l) (hlen : l.length ≤ 9223372036854775807) :
    Calls Try.prog 31 #[.agg #[.int .i64 W, .int .i64 H, .slice A l.length c]] w fun e w' => e = .returned (.int .i64 (gchk W H l)) ∧ Below w.heap.size w w' := by
  have hw0 : Below w.heap.size w (w.alloc (.cells #[.int .i64 W, .int .i64 H, .slice A l.length c] 24)) := (Below.refl _ _).alloc (Nat.le_refl _) _
  by_cases h1 : W < 1 ∨ 8 < W ∨ H < 1 ∨ 8 < H
  · have hfin : gchk W H l = 1 := by rw [gchk, if_pos h1]
    rw [hfin]
    clear hfin hl
    rcases (show W < 1 ∨ (1 ≤ W ∧ 8 < W) ∨ (1 ≤ W ∧ W ≤ 8 ∧ H < 1) ∨ (1 ≤ W ∧ W ≤ 8 ∧ 1 ≤ H ∧ 8 < H) from by omega) with h | h | h | h
    all_goals
      clear h1
      go_enter Try.func31, Try.ntmps31
      go_wp2
      go_ret
      exact ⟨rfl, hw0⟩
  · have a1 : 1 ≤ W := by omega
    have a2 : W ≤ 8 := by omega
    have a3 : 1 ≤ H := by omega
    have a4 : H ≤ 8 := by omega
    have m1 : W * H ≤ 8 * 8 := Int.mul_le_mul a2 a4 (by omega) (by omega)
    have m2 : 0 ≤ W * H := Int.mul_nonneg (by omega) (by omega)
    by_cases h2 : (l.length : Int) = W * H
    · have hco : gchk W H l = if l.any badC then 4 else 0 := by rw [gchk, if_neg h1, if_neg (not_not_intro h2)]
      have HCO := Lib.hid hco
      have g2 : ((l.length : Int) != W * H) = false := by rw [bne_eq_false_iff_eq]; exact h2
      have hl64 : l.length ≤ 64 := by omega
      clear hco h1 h2 hlen
      go_enter Try.func31, Try.ntmps31
      go_wp2
      go_loop [4, 35] (fun _ i => ∃ k : Nat, k ≤ l.length ∧ i = .int .i64 k ∧ (l.take k).any badC = false) (fun _ i => l.length - (intOf i).toNat)
      case atStart => exact ⟨0, Nat.zero_le _, rfl, by simp⟩
      case round =>
        obtain ⟨k, hk, rfl, hin⟩ := hrel
        have HIN := Lib.hid hin
        clear hin
        by_cases hlt : k < l.length
        · obtain ⟨b, off, rfl, hbB, hc1⟩ := (hl.keep hw0 (Nat.le_refl _)).atI hlt
          have hstep : (l.take (k + 1)).any badC = badC l[k] := by
            rw [List.take_succ_eq_append_getElem hlt, List.any_append, HIN.out]; simp
          have hbad : badC l[k] = true → l.any badC = true := fun h => List.any_eq_true.2 ⟨l[k], List.getElem_mem hlt, h⟩
          generalize l[k] = v at hc1 hstep hbad
          have HS := Lib.hid hstep
          have HBAD := Lib.hid hbad
          clear hstep hbad hl
          rcases (show v < 0 ∨ (0 ≤ v ∧ 9 < v) ∨ (0 ≤ v ∧ v ≤ 9) from by omega) with h | h | h
          · have hfin : gchk W H l = 4 := by rw [HCO.out, if_pos (HBAD.out (by simp [badC, h]))]
            have HF := Lib.hid hfin
            clear hfin
            go_wp2
            go_ret
            exact ⟨ret_int HF.out.symm, hw0⟩
          · have hfin : gchk W H l = 4 := by rw [HCO.out, if_pos (HBAD.out (by simp [badC, h]))]
            have HF := Lib.hid hfin
            clear hfin
            go_wp2
            go_ret
            exact ⟨ret_int HF.out.symm, hw0⟩
          · have hfin : (l.take (k + 1)).any badC = false := by rw [HS.out]; simp [badC, h]
            have HF := Lib.hid hfin
            clear hfin
            go_wp2
            go_round
            case rel => exact ⟨k + 1, by omega, by go_num, HF.out⟩
            case measure => simp [intOf]; omega
        · obtain rfl : k = l.length := by omega
          have hfin : gchk W H l = 0 := by rw [HCO.out, if_neg]; have := HIN.out; rw [List.take_length] at this; simp [this]
          have HF := Lib.hid hfin
          clear hfin HIN hl
          go_wp2
          go_ret
          exact ⟨ret_int HF.out.symm, hw0⟩
    · have hfin : gchk W H l = 3 := by rw [gchk, if_neg h1, if_pos h2]
      rw [hfin]
      have g2 : ((l.length : Int) != W * H) = true := by rw [bne_iff_ne]; exact h2
      clear hfin hl h1 h2
      go_enter Try.func31, Try.ntmps31
      go_wp2
      go_ret
      exact ⟨rfl, hw0⟩

set_option maxRecDepth 100000 in
set_option maxHeartbeats 1000000 in
theorem ground_any (W H x y : Int) (A : Option Addr) (n c : Nat) (l : List Int) (w : World) (hn : l.length = n) (hl : Sl w w.heap.size 1 ci A l) (hg : GGood W H l) (hx : -10 ≤ x) (hx2 : x ≤ 100) (hy : -10 ≤ y) (hy2 : y ≤ 100) :
    Calls Try.prog 51 #[.agg #[.int .i64 W, .int .i64 H, .slice A n c], .int .i64 x, .int .i64 y] w fun e w' => e = .returned (.int .i64 (gr W H l x y)) ∧ Below w.heap.size w w' := by
  subst hn
  have hw0 : Below w.heap.size w (w.alloc (.cells #[.int .i64 W, .int .i64 H, .slice A l.length c] 24)) := (Below.refl _ _).alloc (Nat.le_refl _) _
  by_cases h : x < 0 ∨ W ≤ x ∨ y < 0 ∨ H ≤ y
  · have hfin : gr W H l x y = 0 := by rw [gr, if_pos h]
    rw [hfin]
    clear hfin hl hg
    rcases (show x < 0 ∨ (0 ≤ x ∧ W ≤ x) ∨ (0 ≤ x ∧ x < W ∧ y < 0) ∨ (0 ≤ x ∧ x < W ∧ 0 ≤ y ∧ H ≤ y) from by omega) with k | k | k | k
    all_goals
      clear h
      go_enter Try.func51, Try.ntmps51
      go_wp2
      go_ret
      exact ⟨rfl, hw0⟩
  · have a1 : 0 ≤ x := by omega
    have a2 : x < W := by omega
    have a3 : 0 ≤ y := by omega
    have a4 : y < H := by omega
    have hw := hg.w1
    have hw8 := hg.w8
    have hh8 := hg.h8
    have hlen := hg.len
    obtain ⟨i1, i2⟩ := idx_bd hw a1 a2 a3 a4
    have m1 : W * H ≤ 8 * 8 := Int.mul_le_mul hw8 hh8 (by have := hg.h1; omega) (by omega)
    have m2 : 0 ≤ y * W := Int.mul_nonneg a3 (by omega)
    have hfin : gr W H l x y = l.getD (y * W + x).toNat 0 := by rw [gr, if_neg h]
    obtain ⟨k, hk⟩ := Int.eq_ofNat_of_zero_le i1
    have hkl : k < l.length := by omega
    obtain ⟨b, off, rfl, hbB, hc1⟩ := (hl.keep hw0 (Nat.le_refl _)).atI hkl
    have hfin2 : gr W H l x y = l[k] := by rw [hfin, hk]; simp [hkl]
    generalize l[k] = v at hc1 hfin2
    have HF := Lib.hid hfin2
    have b1 : y * W + x < (l.length : Int) := by omega
    have b2 : (y * W + x).toNat = k := by omega
    have b3 : y * W ≤ 64 := by omega
    clear hfin hfin2 hlen hl hg h hk m1
    go_enter Try.func51, Try.ntmps51
    go_wp2
    go_outline
    go_ret
    exact ⟨ret_int HF.out.symm, hw0⟩
end Go.Proofs.Ytpoolpaagbeokaa.Grid

namespace Go.Proofs.Ytpoolpaagbeokaa.Grid
open Go.RowKit Go.Proofs.Ytpoolpaagbeokaa GridLaw
set_option linter.unusedSimpArgs false
set_option linter.unusedVariables false

/-- the array of steps -/
def stV : Value := .agg #[.int .i64 0, .int .i64 (-1), .int .i64 1, .int .i64 (-1), .int .i64 1, .int .i64 0, .int .i64 1, .int .i64 1, .int .i64 0, .int .i64 1, .int .i64 (-1), .int .i64 1, .int .i64 (-1), .int .i64 0, .int .i64 (-1), .int .i64 (-1)]
set_option maxHeartbeats 1000000 in
theorem steps_any (w : World) :
    Calls Try.prog 52 #[] w fun e w' => e = .returned stV ∧ Below w.heap.size w w' := by
  go_enter Try.func52, Try.ntmps52
  go_wp2
  refine bodyPost_ret (v := stV) (by simp [results, Try.results52, go_sem, stV]) rfl ⟨rfl, (Below.refl _ _).alloc (Nat.le_refl _) _⟩
theorem st_idx (k : Nat) (h : k < 8) : ∃ sx sy : Int, st[k]? = some (sx, sy) ∧ (-1 ≤ sx ∧ sx ≤ 1) ∧ (-1 ≤ sy ∧ sy ≤ 1) ∧ ∀ w : World, (Instr.index 122 stV (.int .i64 (k : Int))).run Try.prog w = .ok (.agg #[.int .i64 sx, .int .i64 sy]) w := by
  match k, h with
  | 0, _ => exact ⟨0, -1, rfl, by decide, by decide, fun _ => by kernel_rfl⟩
  | 1, _ => exact ⟨1, -1, rfl, by decide, by decide, fun _ => by kernel_rfl⟩
  | 2, _ => exact ⟨1, 0, rfl, by decide, by decide, fun _ => by kernel_rfl⟩
  | 3, _ => exact ⟨1, 1, rfl, by decide, by decide, fun _ => by kernel_rfl⟩
  | 4, _ => exact ⟨0, 1, rfl, by decide, by decide, fun _ => by kernel_rfl⟩
  | 5, _ => exact ⟨-1, 1, rfl, by decide, by decide, fun _ => by kernel_rfl⟩
  | 6, _ => exact ⟨-1, 0, rfl, by decide, by decide, fun _ => by kernel_rfl⟩
  | 7, _ => exact ⟨-1, -1, rfl, by decide, by decide, fun _ => by kernel_rfl⟩
end Go.Proofs.Ytpoolpaagbeokaa.Grid

namespace Go.Proofs.Ytpoolpaagbeokaa.Grid
open Go.RowKit Go.Proofs.Ytpoolpaagbeokaa GridLaw
set_option linter.unusedSimpArgs false
set_option linter.unusedVariables false

theorem infoEdge : (Try.prog.info? 110).map (fun i => (i.zero, i.size, i.bytes)) = some (some (.agg #[.int .i64 0, .int .i64 0, .int .i64 0]), 3, 24) := by kernel_rfl
/-- what Moves answers -/
def SomeMoves (m : List E) (w : World) (e : Ending) (w' : World) : Prop :=
  ∃ A c, e = .returned (.tuple #[.slice A m.length c, .int .i64 0]) ∧ Own w' w.heap.size 110 3 ce (.slice A m.length c) m ∧ Below w.heap.size w w'

set_option maxRecDepth 100000 in
set_option maxHeartbeats 1000000 in
theorem moves_yes (W H a : Int) (A : Option Addr) (c : Nat) (l : List Int) (w : World) (hl : Sl w w.heap.size 1 ci A l) (hg : GGood W H l) (ha : 0 ≤ a) (ha2 : a < l.length) :
    Calls Try.prog 35 #[.agg #[.int .i64 W, .int .i64 H, .slice A l.length c], .int .i64 a] w fun e w' => SomeMoves (mv W H l (a % W) (a / W)) w e w' := by
  obtain ⟨i0, hi, hz0, hz1, hz2⟩ := info_parts infoEdge
  have hw0 : Below w.heap.size w (w.alloc (.cells #[.int .i64 W, .int .i64 H, .slice A l.length c] 24)) := (Below.refl _ _).alloc (Nat.le_refl _) _
  have w1 := hg.w1
  have w8 := hg.w8
  have h8 := hg.h8
  have h1 := hg.h1
  have hlen := hg.len
  have m1 : W * H ≤ 8 * 8 := Int.mul_le_mul w8 h8 (by omega) (by omega)
  have hl64 : l.length ≤ 64 := by omega
  have x0 : 0 ≤ a % W := Int.emod_nonneg _ (by omega)
  have x1 : a % W < W := Int.emod_lt_of_pos _ (by omega)
  have y0 : 0 ≤ a / W := Int.ediv_nonneg ha (by omega)
  have y1 : a / W < H := Int.ediv_lt_of_lt_mul (by omega) (by rw [Int.mul_comm]; omega)
  have hxy : a / W * W + a % W = a := Int.ediv_mul_add_emod a W
  have t1 : a.tmod W = a % W := Int.tmod_eq_emod_of_nonneg ha
  have t2 : a.tdiv W = a / W := Int.tdiv_eq_ediv_of_nonneg ha
  have t3 : (W == 0) = false := beq_eq_false_iff_ne.2 (by omega)
  have kc := fun W' hs => check_any W H A c l W' hs (by omega)
  rw [gchk_zero.2 hg] at kc
  have KC := Lib.hid kc
  generalize a % W = x at *
  generalize a / W = y at *
  have HLEN := Lib.hid hlen
  have HXY := Lib.hid hxy
  clear kc m1 hlen hxy
  have hG0 := gr_bd hg x y
  have kg := fun W' hs => ground_any W H x y A l.length c l W' rfl hs hg (by omega) (by omega) (by omega) (by omega)
  have hmv : mv W H l x y = if gr W H l x y = 0 then [] else st.filterMap (mvS W H l x y) := rfl
  generalize hh : gr W H l x y = here at *
  have KG := Lib.hid kg
  have HMV := Lib.hid hmv
  have HH := Lib.hid hh
  clear kg hmv hh
  go_enter Try.func35, Try.ntmps35
  go_wp2_with fail
  refine (KC.out _ ((hl.keep hw0 (Nat.le_refl _)).more (by simp))).mono ?_
  rintro e v1 ⟨rfl, hb1⟩
  have B1 : Below (w.heap.size + 1) (w.alloc (.cells #[.int .i64 W, .int .i64 H, .slice A l.length c] 24)) v1 := hb1.mono (by simp)
  have Z1 : w.heap.size + 1 ≤ v1.heap.size := by have := hb1.size; simp at this; omega
  have z1 : w.heap.size < v1.heap.size := by omega
  obtain ⟨cc1, ff1⟩ := keepAt B1 (Nat.lt_succ_self _)
  clear hb1
  go_wp2
  go_quiet (fail)
  go_wp2_with fail
  refine (KG.out _ ((hl.keep (hw0.trans (below_drewN (B1.mono (Nat.le_succ _)) _)) (Nat.le_refl _)).more (by simp; omega))).mono ?_
  rintro e v2 ⟨rfl, hb2⟩
  have B2 := (below_drewN B1 nq).trans (hb2.mono Z1)
  have Z2 : w.heap.size + 1 ≤ v2.heap.size := by have := hb2.size; simp at this; omega
  have z2 : w.heap.size < v2.heap.size := by omega
  have H2 : Below w.heap.size w v2 := hw0.trans (B2.mono (Nat.le_succ _))
  clear hb2 cc1 ff1 B1 Z1 z1
  by_cases hh0 : here = 0
  · subst hh0
    have hm : mv W H l x y = [] := by rw [HMV.out, if_pos rfl]
    have HM := Lib.hid hm
    clear hm hl
    go_wp2
    go_ret2
    exact ⟨none, 0, by rw [HM.out]; rfl, by rw [HM.out]; exact Own.nil_, H2⟩
  · have hh1 : (here == 0) = false := beq_eq_false_iff_ne.2 hh0
    have hm : mv W H l x y = st.filterMap (mvS W H l x y) := by rw [HMV.out, if_neg hh0]
    have HM := Lib.hid hm
    clear hm hh0 HMV
    go_wp2_with fail
    refine (steps_any _).mono ?_
    rintro e v3 ⟨rfl, hb3⟩
    have B3 := B2.trans (hb3.mono Z2)
    have Z3 : w.heap.size + 1 ≤ v3.heap.size := by have := hb3.size; omega
    have H3 : Below w.heap.size w v3 := hw0.trans (B3.mono (Nat.le_succ _))
    clear hb3 B2 Z2 z2 H2
    go_wp2
    go_loopw [10, 44] (fun o i wr => ∃ (k m : Nat) (A' : Option Addr) (c' : Nat), k ≤ 8 ∧ i = .int .i64 k ∧ o = .slice A' m c' ∧ m = ((st.take k).filterMap (mvS W H l x y)).length ∧ Own wr (w.heap.size + 1) 110 3 ce (.slice A' m c') ((st.take k).filterMap (mvS W H l x y)) ∧
        Below (w.heap.size + 1) (w.alloc (.cells #[.int .i64 W, .int .i64 H, .slice A l.length c] 24)) wr) (fun _ i _ => 8 - (intOf i).toNat)
    case atStart => exact ⟨0, 0, none, 0, Nat.zero_le _, rfl, rfl, rfl, Own.nil_, B3⟩
    case round =>
      obtain ⟨k, m, A', c', hk, rfl, rfl, hm, hown, hB⟩ := hrel
      have HMM := Lib.hid hm
      have hm8 := mv_len (mvS W H l x y) k
      rw [← hm] at hm8
      clear hm
      have hHr : Below w.heap.size w wr := hw0.trans (hB.mono (Nat.le_succ _))
      have hsz : w.heap.size < wr.heap.size := by have := hB.size; simp at this; omega
      by_cases hlt : k < 8
      · obtain ⟨sx, sy, hst, ⟨sx0, sx1⟩, ⟨sy0, sy1⟩, hidx⟩ := st_idx k hlt
        have hstep := mv_succ (mvS W H l x y) hst
        have hms : mvS W H l x y (sx, sy) = if gr W H l (x + sx) (y + sy) = 0 then none else if sx ≠ 0 ∧ sy ≠ 0 then (if gr W H l (x + sx) y = 0 ∨ gr W H l x (y + sy) = 0 then none else some (y * W + x, (y + sy) * W + x + sx, 7 * (gr W H l x y + gr W H l (x + sx) (y + sy)))) else some (y * W + x, (y + sy) * W + x + sx, 5 * (gr W H l x y + gr W H l (x + sx) (y + sy))) := rfl
        rw [HXY.out, HH.out] at hms
        have k1 := fun W' hs => ground_any W H (x + sx) (y + sy) A l.length c l W' rfl hs hg (by omega) (by omega) (by omega) (by omega)
        have k2 := fun W' hs => ground_any W H (x + sx) y A l.length c l W' rfl hs hg (by omega) (by omega) (by omega) (by omega)
        have k3 := fun W' hs => ground_any W H x (y + sy) A l.length c l W' rfl hs hg (by omega) (by omega) (by omega) (by omega)
        obtain ⟨g10, g11⟩ := gr_bd hg (x + sx) (y + sy)
        generalize gr W H l (x + sx) (y + sy) = t at *
        generalize gr W H l (x + sx) y = u at *
        generalize gr W H l x (y + sy) = v at *
        have p1 : -8 ≤ (y + sy) * W ∧ (y + sy) * W ≤ 64 := by
          have q1 : (-1) * W ≤ (y + sy) * W := Int.mul_le_mul_of_nonneg_right (by omega) (by omega)
          have q2 : (y + sy) * W ≤ 8 * W := Int.mul_le_mul_of_nonneg_right (by omega) (by omega)
          omega
        obtain ⟨p2, p3⟩ := p1
        have K1 := Lib.hid k1
        have K2 := Lib.hid k2
        have K3 := Lib.hid k3
        have HST := Lib.hid hstep
        have HMS := Lib.hid hms
        clear k1 k2 k3 hstep hms hst
        have hB1 := hB.alloc (by omega) (.cells #[.int .i64 sx, .int .i64 sy] 121)
        obtain ⟨ca, fa⟩ := keepAt hB (Nat.lt_succ_self _)
        go_wp2_with fail
        refine (K1.out _ ((hl.keep (hw0.trans (hB1.mono (Nat.le_succ _))) (Nat.le_refl _)).more (by simp; omega))).mono ?_
        rintro e v4 ⟨rfl, hb4⟩
        have B4 := hB1.trans (hb4.mono (by simp; omega))
        have Z4 : wr.heap.size < v4.heap.size := by have := hb4.size; simp at this; omega
        have z4 : w.heap.size < v4.heap.size := by omega
        have H4 : Below w.heap.size w v4 := hw0.trans (B4.mono (Nat.le_succ _))
        have own4 := (hown.alloc (.cells #[.int .i64 sx, .int .i64 sy] 121)).keep hb4
        obtain ⟨ca4, fa4⟩ := keepAt B4 (Nat.lt_succ_self _)
        obtain ⟨cs4, fs4⟩ := keepAt hb4 (b := wr.heap.size) (by simp)
        clear hb4 ca fa
        by_cases ht : t = 0
        · have hres : mvS W H l x y (sx, sy) = none := by rw [HMS.out, if_pos ht]
          have HRES := Lib.hid hres
          have ht0 : (t == 0) = true := by rw [beq_iff_eq]; exact ht
          clear hres ht
          go_wp2
          go_roundw
          case rel => exact ⟨k + 1, m, A', c', by omega, by go_num, rfl, by rw [HST.out, HRES.out, List.append_nil]; exact HMM.out, by rw [HST.out, HRES.out, List.append_nil]; exact own4, B4⟩
          case measure => simp [intOf]; omega
        · have ht0 : (t == 0) = false := beq_eq_false_iff_ne.2 ht
          have hms2 := HMS.out
          rw [if_neg ht] at hms2
          clear ht HMS
          have hcs : (sx = 0) ∨ (sx ≠ 0 ∧ sy = 0) ∨ (sx ≠ 0 ∧ sy ≠ 0) := by omega
          rcases hcs with hs | ⟨hs, hs2⟩ | ⟨hs, hs2⟩
          · subst hs
            have HRES := Lib.hid (show mvS W H l x y (0, sy) = some (a, (y + sy) * W + x + 0, 5 * (here + t)) by rw [hms2, if_neg (by simp)])
            clear hms2
            simp only [Int.add_zero] at HRES HST
            go_wp2_with (at_builtin; refine wpList_push _ rfl (.tmp 85) (.tmp 105) _ rfl (w.heap.size + 1) 110 i0 _ 3 24 ce Try.underlying50 hi hz0 hz1 hz2 rfl (by decide) _ ((st.take k).filterMap (mvS W H l x y)) m HMM.out.symm rfl (own4.alloc _) v4.heap.size 1 (a, (y + sy) * W + x, 5 * (here + t)) rfl news3 (fun _ _ => one_ce _ _) (by omega) (by omega) (by simp; omega) ?_; intro A5 c5 v9 hown5 hgrow5 hat5)
            have hB9 : Below (w.heap.size + 1) (w.alloc (.cells #[.int .i64 W, .int .i64 H, .slice A l.length c] 24)) v9 := (B4.alloc (by omega) _).grown hgrow5 (by simp; omega) own4.lo
            clear hgrow5
            go_roundw
            case rel =>
              refine ⟨k + 1, m + 1, A5, c5, by omega, by go_num, rfl, ?_, ?_, hB9⟩
              · rw [HST.out, HRES.out, List.length_append, ← HMM.out]; rfl
              · rw [HST.out, HRES.out]; exact hown5
            case measure => simp [intOf]; omega
          · subst hs2
            have HRES := Lib.hid (show mvS W H l x y (sx, 0) = some (a, (y + 0) * W + x + sx, 5 * (here + t)) by rw [hms2, if_neg (by simp)])
            have hs1 : (sx != 0) = true := by rw [bne_iff_ne]; exact hs
            clear hms2 hs
            simp only [Int.add_zero] at HRES HST p2 p3
            go_wp2_with (at_builtin; refine wpList_push _ rfl (.tmp 85) (.tmp 105) _ rfl (w.heap.size + 1) 110 i0 _ 3 24 ce Try.underlying50 hi hz0 hz1 hz2 rfl (by decide) _ ((st.take k).filterMap (mvS W H l x y)) m HMM.out.symm rfl (own4.alloc _) v4.heap.size 1 (a, y * W + x + sx, 5 * (here + t)) rfl news3 (fun _ _ => one_ce _ _) (by omega) (by omega) (by simp; omega) ?_; intro A5 c5 v9 hown5 hgrow5 hat5)
            have hB9 : Below (w.heap.size + 1) (w.alloc (.cells #[.int .i64 W, .int .i64 H, .slice A l.length c] 24)) v9 := (B4.alloc (by omega) _).grown hgrow5 (by simp; omega) own4.lo
            clear hgrow5
            go_roundw
            case rel =>
              refine ⟨k + 1, m + 1, A5, c5, by omega, by go_num, rfl, ?_, ?_, hB9⟩
              · rw [HST.out, HRES.out, List.length_append, ← HMM.out]; rfl
              · rw [HST.out, HRES.out]; exact hown5
            case measure => simp [intOf]; omega
          · have hs1 : (sx != 0) = true := by rw [bne_iff_ne]; exact hs
            have hs3 : (sy != 0) = true := by rw [bne_iff_ne]; exact hs2
            rw [if_pos ⟨hs, hs2⟩] at hms2
            have HMS2 := Lib.hid hms2
            clear hms2 hs hs2
            go_wp2_with fail
            refine (K2.out _ ((hl.keep H4 (Nat.le_refl _)).more (by omega))).mono ?_
            rintro e v5 ⟨rfl, hb5⟩
            have B5 := B4.trans (hb5.mono (by omega))
            have Z5 : wr.heap.size < v5.heap.size := by have := hb5.size; omega
            have z5 : w.heap.size < v5.heap.size := by omega
            have H5 : Below w.heap.size w v5 := hw0.trans (B5.mono (Nat.le_succ _))
            have own5 := own4.keep hb5
            obtain ⟨ca5, fa5⟩ := keepAt B5 (Nat.lt_succ_self _)
            obtain ⟨cs5, fs5⟩ := keepAt hb5 (b := wr.heap.size) (by omega)
            clear hb5
            by_cases hu : u = 0
            · have HRES := Lib.hid (show mvS W H l x y (sx, sy) = none by rw [HMS2.out, if_pos (.inl hu)])
              have hu0 : (u == 0) = true := by rw [beq_iff_eq]; exact hu
              clear hu HMS2
              go_wp2
              go_roundw
              case rel => exact ⟨k + 1, m, A', c', by omega, by go_num, rfl, by rw [HST.out, HRES.out, List.append_nil]; exact HMM.out, by rw [HST.out, HRES.out, List.append_nil]; exact own5, B5⟩
              case measure => simp [intOf]; omega
            · have hu0 : (u == 0) = false := beq_eq_false_iff_ne.2 hu
              go_wp2_with fail
              refine (K3.out _ ((hl.keep H5 (Nat.le_refl _)).more (by omega))).mono ?_
              rintro e v6 ⟨rfl, hb6⟩
              have B6 := B5.trans (hb6.mono (by omega))
              have Z6 : wr.heap.size < v6.heap.size := by have := hb6.size; omega
              have z6 : w.heap.size < v6.heap.size := by omega
              have own6 := own5.keep hb6
              obtain ⟨ca6, fa6⟩ := keepAt B6 (Nat.lt_succ_self _)
              obtain ⟨cs6, fs6⟩ := keepAt hb6 (b := wr.heap.size) (by omega)
              clear hb6
              by_cases hv : v = 0
              · have HRES := Lib.hid (show mvS W H l x y (sx, sy) = none by rw [HMS2.out, if_pos (.inr hv)])
                have hv0 : (v == 0) = true := by rw [beq_iff_eq]; exact hv
                clear hv hu HMS2
                go_wp2
                go_roundw
                case rel => exact ⟨k + 1, m, A', c', by omega, by go_num, rfl, by rw [HST.out, HRES.out, List.append_nil]; exact HMM.out, by rw [HST.out, HRES.out, List.append_nil]; exact own6, B6⟩
                case measure => simp [intOf]; omega
              · have HRES := Lib.hid (show mvS W H l x y (sx, sy) = some (a, (y + sy) * W + x + sx, 7 * (here + t)) by rw [HMS2.out, if_neg (by omega)])
                have hv0 : (v == 0) = false := beq_eq_false_iff_ne.2 hv
                clear hv hu HMS2
                go_wp2_with (at_builtin; refine wpList_push _ rfl (.tmp 85) (.tmp 105) _ rfl (w.heap.size + 1) 110 i0 _ 3 24 ce Try.underlying50 hi hz0 hz1 hz2 rfl (by decide) _ ((st.take k).filterMap (mvS W H l x y)) m HMM.out.symm rfl (own6.alloc _) v6.heap.size 1 (a, (y + sy) * W + x + sx, 7 * (here + t)) rfl news3 (fun _ _ => one_ce _ _) (by omega) (by omega) (by simp; omega) ?_; intro A5 c5 v9 hown5 hgrow5 hat5)
                have hB9 : Below (w.heap.size + 1) (w.alloc (.cells #[.int .i64 W, .int .i64 H, .slice A l.length c] 24)) v9 := (B6.alloc (by omega) _).grown hgrow5 (by simp; omega) own6.lo
                clear hgrow5
                go_roundw
                case rel =>
                  refine ⟨k + 1, m + 1, A5, c5, by omega, by go_num, rfl, ?_, ?_, hB9⟩
                  · rw [HST.out, HRES.out, List.length_append, ← HMM.out]; rfl
                  · rw [HST.out, HRES.out]; exact hown5
                case measure => simp [intOf]; omega
      · have hk8 : k = 8 := by omega
        have hall : (st.take k).filterMap (mvS W H l x y) = mv W H l x y := by rw [hk8, HM.out]; rfl
        have HALL := Lib.hid hall
        have hm2 := HMM.out
        have hk9 : ¬ ((k : Int) < 8) := by omega
        rw [HALL.out] at hown hm2
        have HM2 := Lib.hid hm2
        clear hk8 hall hm2 hl hlt
        go_wp2
        go_ret2
        exact ⟨A', c', by rw [← HM2.out]; rfl, by rw [← HM2.out]; exact hown.mono (Nat.le_succ _), hHr⟩
end Go.Proofs.Ytpoolpaagbeokaa.Grid
