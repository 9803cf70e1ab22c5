/- The walks of package grid: Check, ground. -/
import Derived.Test.YtbgkkmcobijkgaaSlice
import Derived.Test.YtbgkkmcobijkgaaGridLaw
namespace Go.Proofs.Ytbgkkmcobijkgaa.Grid
open Go.RowKit Go.Proofs.Ytbgkkmcobijkgaa GridLaw
set_option linter.unusedSimpArgs false
set_option linter.unusedVariables false

set_option maxRecDepth 100000 in
set_option maxHeartbeats 1000000 in
theorem check_any (W H : Int) (A : Option Addr) (c : Nat) (l : List Int) (w : World) (hl : Sl w w.heap.size 1 ci A l) (hlen : l.length ≤ 9223372036854775807) :
    Calls Try.prog 46 #[.agg #[.int .i64 W, .int .i64 H, .slice A l.length c]] w fun e w' => e = .returned (.int .i64 (gchk W H l)) ∧ Below w.heap.size w w' := by
  have hw0 : Below w.heap.size w (w.alloc (.cells #[.int .i64 W, .int .i64 H, .slice A l.length c] 24)) := (Below.refl _ _).alloc (Nat.le_refl _) _
  by_cases h1 : W < 1 ∨ 8 < W ∨ H < 1 ∨ 8 < H
  · have hfin : gchk W H l = 1 := by rw [gchk, if_pos h1]
    rw [hfin]
    clear hfin hl
    rcases (show W < 1 ∨ (1 ≤ W ∧ 8 < W) ∨ (1 ≤ W ∧ W ≤ 8 ∧ H < 1) ∨ (1 ≤ W ∧ W ≤ 8 ∧ 1 ≤ H ∧ 8 < H) from by omega) with h | h | h | h
    all_goals
      clear h1
      go_enter Try.func46, Try.ntmps46
      go_wp2
      go_ret
      exact ⟨rfl, hw0⟩
  · have a1 : 1 ≤ W := by omega
    have a2 : W ≤ 8 := by omega
    have a3 : 1 ≤ H := by omega
    have a4 : H ≤ 8 := by omega
    have m1 : W * H ≤ 8 * 8 := Int.mul_le_mul a2 a4 (by omega) (by omega)
    have m2 : 0 ≤ W * H := Int.mul_nonneg (by omega) (by omega)
    by_cases h2 : (l.length : Int) = W * H
    · have hco : gchk W H l = if l.any badC then 4 else 0 := by rw [gchk, if_neg h1, if_neg (not_not_intro h2)]
      have HCO := Lib.hid hco
      have g2 : ((l.length : Int) != W * H) = false := by rw [bne_eq_false_iff_eq]; exact h2
      have hl64 : l.length ≤ 64 := by omega
      clear hco h1 h2 hlen
      go_enter Try.func46, Try.ntmps46
      go_wp2
      go_loop [4, 35] (fun _ i => ∃ k : Nat, k ≤ l.length ∧ i = .int .i64 k ∧ (l.take k).any badC = false) (fun _ i => l.length - (intOf i).toNat)
      case atStart => exact ⟨0, Nat.zero_le _, rfl, by simp⟩
      case round =>
        obtain ⟨k, hk, rfl, hin⟩ := hrel
        have HIN := Lib.hid hin
        clear hin
        by_cases hlt : k < l.length
        · obtain ⟨b, off, rfl, hbB, hc1⟩ := (hl.keep hw0 (Nat.le_refl _)).atI hlt
          have hstep : (l.take (k + 1)).any badC = badC l[k] := by
            rw [List.take_succ_eq_append_getElem hlt, List.any_append, HIN.out]; simp
          have hbad : badC l[k] = true → l.any badC = true := fun h => List.any_eq_true.2 ⟨l[k], List.getElem_mem hlt, h⟩
          generalize l[k] = v at hc1 hstep hbad
          have HS := Lib.hid hstep
          have HBAD := Lib.hid hbad
          clear hstep hbad hl
          rcases (show v < 0 ∨ (0 ≤ v ∧ 9 < v) ∨ (0 ≤ v ∧ v ≤ 9) from by omega) with h | h | h
          · have hfin : gchk W H l = 4 := by rw [HCO.out, if_pos (HBAD.out (by simp [badC, h]))]
            have HF := Lib.hid hfin
            clear hfin
            go_wp2
            go_ret
            exact ⟨ret_int HF.out.symm, hw0⟩
          · have hfin : gchk W H l = 4 := by rw [HCO.out, if_pos (HBAD.out (by simp [badC, h]))]
            have HF := Lib.hid hfin
            clear hfin
            go_wp2
            go_ret
            exact ⟨ret_int HF.out.symm, hw0⟩
          · have hfin : (l.take (k + 1)).any badC = false := by rw [HS.out]; simp [badC, h]
            have HF := Lib.hid hfin
            clear hfin
            go_wp2
            go_round
            case rel => exact ⟨k + 1, by omega, by go_num, HF.out⟩
            case measure => simp [intOf]; omega
        · obtain rfl : k = l.length := by omega
          have hfin : gchk W H l = 0 := by rw [HCO.out, if_neg]; have := HIN.out; rw [List.take_length] at this; simp [this]
          have HF := Lib.hid hfin
          clear hfin HIN hl
          go_wp2
          go_ret
          exact ⟨ret_int HF.out.symm, hw0⟩
    · have hfin : gchk W H l = 3 := by rw [gchk, if_neg h1, if_pos h2]
      rw [hfin]
      have g2 : ((l.length : Int) != W * H) = true := by rw [bne_iff_ne]; exact h2
      clear hfin hl h1 h2
      go_enter Try.func46, Try.ntmps46
      go_wp2
      go_ret
      exact ⟨rfl, hw0⟩

set_option maxRecDepth 100000 in
set_option maxHeartbeats 1000000 in
theorem ground_any (W H x y : Int) (A : Option Addr) (n c : Nat) (l : List Int) (w : World) (hn : l.length = n) (hl : Sl w w.heap.size 1 ci A l) (hg : GGood W H l) (hx : -10 ≤ x) (hx2 : x ≤ 100) (hy : -10 ≤ y) (hy2 : y ≤ 100) :
    Calls Try.prog 72 #[.agg #[.int .i64 W, .int .i64 H, .slice A n c], .int .i64 x, .int .i64 y] w fun e w' => e = .returned (.int .i64 (gr W H l x y)) ∧ Below w.heap.size w w' := by
  subst hn
  have hw0 : Below w.heap.size w (w.alloc (.cells #[.int .i64 W, .int .i64 H, .slice A l.length c] 24)) := (Below.refl _ _).alloc (Nat.le_refl _) _
  by_cases h : x < 0 ∨ W ≤ x ∨ y < 0 ∨ H ≤ y
  · have hfin : gr W H l x y = 0 := by rw [gr, if_pos h]
    rw [hfin]
    clear hfin hl hg
    rcases (show x < 0 ∨ (0 ≤ x ∧ W ≤ x) ∨ (0 ≤ x ∧ x < W ∧ y < 0) ∨ (0 ≤ x ∧ x < W ∧ 0 ≤ y ∧ H ≤ y) from by omega) with k | k | k | k
    all_goals
      clear h
      go_enter Try.func72, Try.ntmps72
      go_wp2
      go_ret
      exact ⟨rfl, hw0⟩
  · have a1 : 0 ≤ x := by omega
    have a2 : x < W := by omega
    have a3 : 0 ≤ y := by omega
    have a4 : y < H := by omega
    have hw := hg.w1
    have hw8 := hg.w8
    have hh8 := hg.h8
    have hlen := hg.len
    obtain ⟨i1, i2⟩ := idx_bd hw a1 a2 a3 a4
    have m1 : W * H ≤ 8 * 8 := Int.mul_le_mul hw8 hh8 (by have := hg.h1; omega) (by omega)
    have m2 : 0 ≤ y * W := Int.mul_nonneg a3 (by omega)
    have hfin : gr W H l x y = l.getD (y * W + x).toNat 0 := by rw [gr, if_neg h]
    obtain ⟨k, hk⟩ := Int.eq_ofNat_of_zero_le i1
    have hkl : k < l.length := by omega
    obtain ⟨b, off, rfl, hbB, hc1⟩ := (hl.keep hw0 (Nat.le_refl _)).atI hkl
    have hfin2 : gr W H l x y = l[k] := by rw [hfin, hk]; simp [hkl]
    generalize l[k] = v at hc1 hfin2
    have HF := Lib.hid hfin2
    have b1 : y * W + x < (l.length : Int) := by omega
    have b2 : (y * W + x).toNat = k := by omega
    have b3 : y * W ≤ 64 := by omega
    clear hfin hfin2 hlen hl hg h hk m1
    go_enter Try.func72, Try.ntmps72
    go_wp2
    go_outline
    go_ret
    exact ⟨ret_int HF.out.symm, hw0⟩
end Go.Proofs.Ytbgkkmcobijkgaa.Grid
