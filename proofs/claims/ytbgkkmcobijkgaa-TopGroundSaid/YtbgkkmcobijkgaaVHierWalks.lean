/- The walks of package grid: Check, ground. -/
/- The walks of package hier: look, square, Square. -/
import Derived.Test.YtbgkkmcobijkgaaVSlice
import Derived.Test.YtbgkkmcobijkgaaVGridBackLaw
import Derived.Test.YtbgkkmcobijkgaaVHierLaw
import Derived.Test.YtbgkkmcobijkgaaVNetTurn
import Derived.BigQuiet
namespace Go.Proofs.Ytbgkkmcobijkgaa.Grid
open Go.RowKit Go.Proofs.Ytbgkkmcobijkgaa GridLaw
set_option linter.unusedSimpArgs false
set_option linter.unusedVariables false

set_option maxRecDepth 100000 in
set_option maxHeartbeats 1000000 in
theorem check_any (W H : Int) (A : Option Addr) (c : Nat) (l : List Int) (w : World) (hl : Sl w w.heap.size 1 ci A l) (hlen : l.length ≤ 9223372036854775807) :
    Calls Try.prog 46 #[.agg #[.int .i64 W, .int .i64 H, .slice A l.length c]] w fun e w' => e = .returned (.int .i64 (gchk W H l)) ∧ Below w.heap.size w w' := by
  have hw0 : Below w.heap.size w (w.alloc (.cells #[.int .i64 W, .int .i64 H, .slice A l.length c] 24)) := (Below.refl _ _).alloc (Nat.le_refl _) _
  by_cases h1 : W < 1 ∨ 8 < W ∨ H < 1 ∨ 8 < H
  · have hfin : gchk W H l = 1 := by rw [gchk, if_pos h1]
    rw [hfin]
    clear hfin hl
    rcases (show W < 1 ∨ (1 ≤ W ∧ 8 < W) ∨ (1 ≤ W ∧ W ≤ 8 ∧ H < 1) ∨ (1 ≤ W ∧ W ≤ 8 ∧ 1 ≤ H ∧ 8 < H) from by omega) with h | h | h | h
    all_goals
      clear h1
      go_enter Try.func46, Try.ntmps46
      go_wp2
      go_ret
      exact ⟨rfl, hw0⟩
  · have a1 : 1 ≤ W := by omega
    have a2 : W ≤ 8 := by omega
    have a3 : 1 ≤ H := by omega
    have a4 : H ≤ 8 := by omega
    have m1 : W * H ≤ 8 * 8 := Int.mul_le_mul a2 a4 (by omega) (by omega)
    have m2 : 0 ≤ W * H := Int.mul_nonneg (by omega) (by omega)
    by_cases h2 : (l.length : Int) = W * H
    · have hco : gchk W H l = if l.any badC then 4 else 0 := by rw [gchk, if_neg h1, if_neg (not_not_intro h2)]
      have HCO := Lib.hid hco
      have g2 : ((l.length : Int) != W * H) = false := by rw [bne_eq_false_iff_eq]; exact h2
      have hl64 : l.length ≤ 64 := by omega
      clear hco h1 h2 hlen
      go_enter Try.func46, Try.ntmps46
      go_wp2
      go_loop [4, 35] (fun _ i => ∃ k : Nat, k ≤ l.length ∧ i = .int .i64 k ∧ (l.take k).any badC = false) (fun _ i => l.length - (intOf i).toNat)
      case atStart => exact ⟨0, Nat.zero_le _, rfl, by simp⟩
      case round =>
        obtain ⟨k, hk, rfl, hin⟩ := hrel
        have HIN := Lib.hid hin
        clear hin
        by_cases hlt : k < l.length
        · obtain ⟨b, off, rfl, hbB, hc1⟩ := (hl.keep hw0 (Nat.le_refl _)).atI hlt
          have hstep : (l.take (k + 1)).any badC = badC l[k] := by
            rw [List.take_succ_eq_append_getElem hlt, List.any_append, HIN.out]; simp
          have hbad : badC l[k] = true → l.any badC = true := fun h => List.any_eq_true.2 ⟨l[k], List.getElem_mem hlt, h⟩
          generalize l[k] = v at hc1 hstep hbad
          have HS := Lib.hid hstep
          have HBAD := Lib.hid hbad
          clear hstep hbad hl
          rcases (show v < 0 ∨ (0 ≤ v ∧ 9 < v) ∨ (0 ≤ v ∧ v ≤ 9) from by omega) with h | h | h
          · have hfin : gchk W H l = 4 := by rw [HCO.out, if_pos (HBAD.out (by simp [badC, h]))]
            have HF := Lib.hid hfin
            clear hfin
            go_wp2
            go_ret
            exact ⟨ret_int HF.out.symm, hw0⟩
          · have hfin : gchk W H l = 4 := by rw [HCO.out, if_pos (HBAD.out (by simp [badC, h]))]
            have HF := Lib.hid hfin
            clear hfin
            go_wp2
            go_ret
            exact ⟨ret_int HF.out.symm, hw0⟩
          · have hfin : (l.take (k + 1)).any badC = false := by rw [HS.out]; simp [badC, h]
            have HF := Lib.hid hfin
            clear hfin
            go_wp2
            go_round
            case rel => exact ⟨k + 1, by omega, by go_num, HF.out⟩
            case measure => simp [intOf]; omega
        · obtain rfl : k = l.length := by omega
          have hfin : gchk W H l = 0 := by rw [HCO.out, if_neg]; have := HIN.out; rw [List.take_length] at this; simp [this]
          have HF := Lib.hid hfin
          clear hfin HIN hl
          go_wp2
          go_ret
          exact ⟨ret_int HF.out.symm, hw0⟩
    · have hfin : gchk W H l = 3 := by rw [gchk, if_neg h1, if_pos h2]
      rw [hfin]
      have g2 : ((l.length : Int) != W * H) = true := by rw [bne_iff_ne]; exact h2
      clear hfin hl h1 h2
      go_enter Try.func46, Try.ntmps46
      go_wp2
      go_ret
      exact ⟨rfl, hw0⟩

set_option maxRecDepth 100000 in
set_option maxHeartbeats 1000000 in
theorem ground_any (W H x y : Int) (A : Option Addr) (n c : Nat) (l : List Int) (w : World) (hn : l.length = n) (hl : Sl w w.heap.size 1 ci A l) (hg : GGood W H l) (hx : -10 ≤ x) (hx2 : x ≤ 100) (hy : -10 ≤ y) (hy2 : y ≤ 100) :
    Calls Try.prog 72 #[.agg #[.int .i64 W, .int .i64 H, .slice A n c], .int .i64 x, .int .i64 y] w fun e w' => e = .returned (.int .i64 (gr W H l x y)) ∧ Below w.heap.size w w' := by
  subst hn
  have hw0 : Below w.heap.size w (w.alloc (.cells #[.int .i64 W, .int .i64 H, .slice A l.length c] 24)) := (Below.refl _ _).alloc (Nat.le_refl _) _
  by_cases h : x < 0 ∨ W ≤ x ∨ y < 0 ∨ H ≤ y
  · have hfin : gr W H l x y = 0 := by rw [gr, if_pos h]
    rw [hfin]
    clear hfin hl hg
    rcases (show x < 0 ∨ (0 ≤ x ∧ W ≤ x) ∨ (0 ≤ x ∧ x < W ∧ y < 0) ∨ (0 ≤ x ∧ x < W ∧ 0 ≤ y ∧ H ≤ y) from by omega) with k | k | k | k
    all_goals
      clear h
      go_enter Try.func72, Try.ntmps72
      go_wp2
      go_ret
      exact ⟨rfl, hw0⟩
  · have a1 : 0 ≤ x := by omega
    have a2 : x < W := by omega
    have a3 : 0 ≤ y := by omega
    have a4 : y < H := by omega
    have hw := hg.w1
    have hw8 := hg.w8
    have hh8 := hg.h8
    have hlen := hg.len
    obtain ⟨i1, i2⟩ := idx_bd hw a1 a2 a3 a4
    have m1 : W * H ≤ 8 * 8 := Int.mul_le_mul hw8 hh8 (by have := hg.h1; omega) (by omega)
    have m2 : 0 ≤ y * W := Int.mul_nonneg a3 (by omega)
    have hfin : gr W H l x y = l.getD (y * W + x).toNat 0 := by rw [gr, if_neg h]
    obtain ⟨k, hk⟩ := Int.eq_ofNat_of_zero_le i1
    have hkl : k < l.length := by omega
    obtain ⟨b, off, rfl, hbB, hc1⟩ := (hl.keep hw0 (Nat.le_refl _)).atI hkl
    have hfin2 : gr W H l x y = l[k] := by rw [hfin, hk]; simp [hkl]
    generalize l[k] = v at hc1 hfin2
    have HF := Lib.hid hfin2
    have b1 : y * W + x < (l.length : Int) := by omega
    have b2 : (y * W + x).toNat = k := by omega
    have b3 : y * W ≤ 64 := by omega
    clear hfin hfin2 hlen hl hg h hk m1
    go_enter Try.func72, Try.ntmps72
    go_wp2
    go_outline
    go_ret
    exact ⟨ret_int HF.out.symm, hw0⟩
end Go.Proofs.Ytbgkkmcobijkgaa.Grid

namespace Go.Proofs.Ytbgkkmcobijkgaa.Hier
open Go.RowKit Go.Proofs.Ytbgkkmcobijkgaa GridLaw HierLaw Go.Proofs.Ytbgkkmcobijkgaa.Grid Go.Proofs.Ytbgkkmcobijkgaa.Net
set_option linter.unusedSimpArgs false
set_option linter.unusedVariables false
set_option maxRecDepth 100000 in
set_option maxHeartbeats 1000000 in
theorem look_any (W H k : Int) (A : Option Addr) (n c : Nat) (l : List Int) (w : World) (hn : l.length = n) (hl : Sl w w.heap.size 1 ci A l) (hlen : n ≤ 9223372036854775807) :
    Calls Try.prog 43 #[.agg #[.int .i64 W, .int .i64 H, .slice A n c], .int .i64 k] w fun e w' => e = .returned (.int .i64 (lk W H l k)) ∧ Below w.heap.size w w' := by
  subst hn
  have hb0 : Below w.heap.size w (w.alloc (.cells #[.int .i64 W, .int .i64 H, .slice A l.length c] 24)) := (Below.refl _ _).alloc (Nat.le_refl _) _
  have key := check_any W H A c l _ ((hl.keep hb0 (Nat.le_refl _)).more hb0.size) hlen
  have hlk : lk W H l k = if gchk W H l ≠ 0 then gchk W H l else if k < 1 ∨ 8 < k then 1 else 0 := rfl
  generalize lk W H l k = r at hlk ⊢
  generalize gchk W H l = g at key hlk
  have KEY := Lib.hid key
  clear key hl
  by_cases hg : g = 0
  · subst hg
    rw [if_neg (by simp)] at hlk
    rcases (show k < 1 ∨ (1 ≤ k ∧ 8 < k) ∨ (1 ≤ k ∧ k ≤ 8) from by omega) with h | h | h
    all_goals
      obtain rfl : r = _ := hlk
      first
        | rw [if_pos (by omega)]
        | rw [if_neg (by omega)]
      go_enter Try.func43, Try.ntmps43
      go_wp2_with fail
      refine KEY.out.mono ?_
      rintro e w1 ⟨rfl, hb1⟩
      have hB1 := hb0.trans (hb1.mono (by simp))
      clear hb0
      go_wp2
      go_ret
      exact ⟨rfl, hB1⟩
  · rw [if_pos hg] at hlk
    have g0 : (g != 0) = true := by simp [hg]
    subst hlk
    go_enter Try.func43, Try.ntmps43
    go_wp2_with fail
    refine KEY.out.mono ?_
    rintro e w1 ⟨rfl, hb1⟩
    have hB1 := hb0.trans (hb1.mono (by simp))
    clear hb0
    go_wp2
    go_ret
    exact ⟨rfl, hB1⟩
theorem sq_parts {W k v : Int} (hW : 1 ≤ W) (hW8 : W ≤ 8) (hk : 1 ≤ k) (hk8 : k ≤ 8) (h0 : 0 ≤ v) (h1 : v ≤ 64) :
    (0 ≤ v / W ∧ v / W ≤ 64) ∧ (0 ≤ v / W / k ∧ v / W / k ≤ 64) ∧ (0 ≤ (W + k - 1) / k ∧ (W + k - 1) / k ≤ 15) ∧ (0 ≤ v % W ∧ v % W ≤ 8) ∧ (0 ≤ v % W / k ∧ v % W / k ≤ 8) ∧ (0 ≤ v / W / k * ((W + k - 1) / k) ∧ v / W / k * ((W + k - 1) / k) ≤ 960) := by
  have le_div : ∀ a b : Int, 0 ≤ a → 1 ≤ b → 0 ≤ a / b ∧ a / b ≤ a := fun a b ha hb => ⟨Int.ediv_nonneg ha (by omega), Int.ediv_le_self _ ha⟩
  have a1 := le_div v W h0 hW
  have a2 := le_div (v / W) k a1.1 hk
  have a3 := le_div (W + k - 1) k (by omega) hk
  have a4 := Int.emod_nonneg v (show W ≠ 0 by omega)
  have a5 := Int.emod_lt_of_pos v (show 0 < W by omega)
  have a6 := le_div (v % W) k a4 hk
  have a7 : v / W / k * ((W + k - 1) / k) ≤ 64 * 15 := Int.mul_le_mul (by omega) (by omega) a3.1 (by omega)
  have a8 : 0 ≤ v / W / k * ((W + k - 1) / k) := Int.mul_nonneg a2.1 a3.1
  exact ⟨⟨a1.1, by omega⟩, ⟨a2.1, by omega⟩, ⟨a3.1, by omega⟩, ⟨a4, by omega⟩, ⟨a6.1, by omega⟩, ⟨a8, by omega⟩⟩
set_option maxRecDepth 100000 in
set_option maxHeartbeats 1000000 in
theorem square_any (W H k v : Int) (A : Option Addr) (n c : Nat) (w : World) (hW : 1 ≤ W) (hW8 : W ≤ 8) (hk : 1 ≤ k) (hk8 : k ≤ 8) (h0 : 0 ≤ v) (h1 : v ≤ 64) :
    Calls Try.prog 49 #[.agg #[.int .i64 W, .int .i64 H, .slice A n c], .int .i64 k, .int .i64 v] w fun e w' => e = .returned (.int .i64 (sq W k v)) ∧ Below w.heap.size w w' := by
  obtain ⟨⟨b1, b2⟩, ⟨b3, b4⟩, ⟨b5, b6⟩, ⟨b7, b8⟩, ⟨b9, b10⟩, ⟨b11, b12⟩⟩ := sq_parts hW hW8 hk hk8 h0 h1
  have hB : Below w.heap.size w (w.alloc (.cells #[.int .i64 W, .int .i64 H, .slice A n c] 24)) := (Below.refl _ _).alloc (Nat.le_refl _) _
  have t1 : v.tmod W = v % W := Int.tmod_eq_emod_of_nonneg h0
  have t2 : v.tdiv W = v / W := Int.tdiv_eq_ediv_of_nonneg h0
  have t3 : (W == 0) = false := beq_eq_false_iff_ne.2 (by omega)
  have t4 : (k == 0) = false := beq_eq_false_iff_ne.2 (by omega)
  have t5 : (v / W).tdiv k = v / W / k := Int.tdiv_eq_ediv_of_nonneg b1
  have t6 : (W + k - 1).tdiv k = (W + k - 1) / k := Int.tdiv_eq_ediv_of_nonneg (by omega)
  have t7 : (v % W).tdiv k = v % W / k := Int.tdiv_eq_ediv_of_nonneg b7
  have hsq : sq W k v = v / W / k * ((W + k - 1) / k) + v % W / k := rfl
  generalize sq W k v = r at hsq ⊢
  generalize v % W = x1 at *
  generalize v / W = x2 at *
  generalize x2 / k = x3 at *
  generalize (W + k - 1) / k = x4 at *
  generalize x1 / k = x5 at *
  generalize hx6 : x3 * x4 = x6 at *
  subst hsq
  go_enter Try.func49, Try.ntmps49
  go_wp2
  go_quiet (fail)
  go_wp2
  go_ret
  exact ⟨rfl, below_drewN hB _⟩
/-- what Square answers: a fault, or the square -/
def sqr (W H : Int) (l : List Int) (k v : Int) : Int × Int := if lk W H l k ≠ 0 then (0, lk W H l k) else if v < 0 ∨ (l.length : Int) ≤ v then (0, 1) else (sq W k v, 0)
set_option maxRecDepth 100000 in
set_option maxHeartbeats 1000000 in
theorem Square_any (W H k v : Int) (A : Option Addr) (n c : Nat) (l : List Int) (w : World) (hn : l.length = n) (hl : Sl w w.heap.size 1 ci A l) (hlen : n ≤ 9223372036854775807) :
    Calls Try.prog 21 #[.agg #[.int .i64 W, .int .i64 H, .slice A n c], .int .i64 k, .int .i64 v] w fun e w' => e = .returned (.tuple #[.int .i64 (sqr W H l k v).1, .int .i64 (sqr W H l k v).2]) ∧ Below w.heap.size w w' := by
  have hb0 : Below w.heap.size w (w.alloc (.cells #[.int .i64 W, .int .i64 H, .slice A n c] 24)) := (Below.refl _ _).alloc (Nat.le_refl _) _
  have hQ := heap_alloc_new w (.cells #[.int .i64 W, .int .i64 H, .slice A n c] 24)
  have key := look_any W H k A n c l _ hn ((hl.keep hb0 (Nat.le_refl _)).more hb0.size) hlen
  have KEY := Lib.hid key
  clear key hl
  by_cases hg : lk W H l k = 0
  · obtain ⟨gg, k1, k8⟩ := lk_zero.1 hg
    have hw1 := gg.w1
    have hw8 := gg.w8
    have hcells : (l.length : Int) ≤ 64 := by
      have h2 := gg.len
      have h3 : W * H ≤ 8 * 8 := Int.mul_le_mul gg.w8 gg.h8 (by have := gg.h1; omega) (by omega)
      omega
    have hs : sqr W H l k v = if v < 0 ∨ (n : Int) ≤ v then (0, 1) else (sq W k v, 0) := by rw [← hn, sqr, if_neg (by simp [hg])]
    rw [hg] at KEY
    rw [hs]
    clear hs hg gg
    rcases (show v < 0 ∨ (0 ≤ v ∧ (n : Int) ≤ v) ∨ (0 ≤ v ∧ v < n) from by omega) with h | h | h
    · rw [if_pos (.inl h)]
      clear hn hcells
      go_enter Try.func21, Try.ntmps21
      go_wp2_with fail
      refine KEY.out.mono ?_
      rintro e w1 ⟨rfl, hb1⟩
      have hB1 := hb0.trans (hb1.mono (by simp))
      clear hb0
      go_wp2
      go_ret2
      exact ⟨rfl, hB1⟩
    · rw [if_pos (.inr h.2)]
      clear hn hcells
      go_enter Try.func21, Try.ntmps21
      go_wp2_with fail
      refine KEY.out.mono ?_
      rintro e w1 ⟨rfl, hb1⟩
      have hB1 := hb0.trans (hb1.mono (by simp))
      have q2 := blk_cell (blk_below hQ hb1 (by simp)) 2
      simp only [List.getElem?_toArray, List.getElem?_cons_zero, List.getElem?_cons_succ] at q2
      clear hb0
      go_wp2
      go_ret2
      exact ⟨rfl, hB1⟩
    · rw [if_neg (by omega)]
      have hv64 : v ≤ 64 := by rw [hn] at hcells; omega
      have ks := fun W' => square_any W H k v A n c W' hw1 hw8 k1 k8 h.1 hv64
      have KS := Lib.hid ks
      clear hn hcells ks
      go_enter Try.func21, Try.ntmps21
      go_wp2_with fail
      refine KEY.out.mono ?_
      rintro e w1 ⟨rfl, hb1⟩
      have hB1 := hb0.trans (hb1.mono (by simp))
      have q0 := blk_cell (blk_below hQ hb1 (by simp)) 0
      have q1 := blk_cell (blk_below hQ hb1 (by simp)) 1
      have q2 := blk_cell (blk_below hQ hb1 (by simp)) 2
      simp only [List.getElem?_toArray, List.getElem?_cons_zero, List.getElem?_cons_succ] at q0 q1 q2
      clear hb0
      go_wp2_with fail
      refine (KS.out _).mono ?_
      rintro e w2 ⟨rfl, hb2⟩
      have hB2 := hB1.trans (hb2.mono hB1.size)
      go_wp2
      go_ret2
      exact ⟨rfl, hB2⟩
  · have hs : sqr W H l k v = (0, lk W H l k) := by rw [sqr, if_pos hg]
    rw [hs]
    generalize lk W H l k = g at KEY hg
    have g0 : (g != 0) = true := by simp [hg]
    clear hs
    go_enter Try.func21, Try.ntmps21
    go_wp2_with fail
    refine KEY.out.mono ?_
    rintro e w1 ⟨rfl, hb1⟩
    have hB1 := hb0.trans (hb1.mono (by simp))
    clear hb0
    go_wp2
    go_ret2
    exact ⟨rfl, hB1⟩
end Go.Proofs.Ytbgkkmcobijkgaa.Hier
