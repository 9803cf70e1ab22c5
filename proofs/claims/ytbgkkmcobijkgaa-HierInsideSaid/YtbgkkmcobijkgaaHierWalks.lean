/- The walks of package hier: look, square, Square. -/
import Derived.Test.YtbgkkmcobijkgaaHierLaw
import Derived.Test.YtbgkkmcobijkgaaGridWalks
import Derived.Test.YtbgkkmcobijkgaaNetTurn
import Derived.BigQuiet
namespace Go.Proofs.Ytbgkkmcobijkgaa.Hier
open Go.RowKit Go.Proofs.Ytbgkkmcobijkgaa GridLaw HierLaw Go.Proofs.Ytbgkkmcobijkgaa.Grid Go.Proofs.Ytbgkkmcobijkgaa.Net
set_option linter.unusedSimpArgs false
set_option linter.unusedVariables false
set_option maxRecDepth 100000 in
set_option maxHeartbeats 1000000 in
theorem look_any (W H k : Int) (A : Option Addr) (n c : Nat) (l : List Int) (w : World) (hn : l.length = n) (hl : Sl w w.heap.size 1 ci A l) (hlen : n ≤ 9223372036854775807) :
    Calls Try.prog 43 #[.agg #[.int .i64 W, .int .i64 H, .slice A n c], .int .i64 k] w fun e w' => e = .returned (.int .i64 (lk W H l k)) ∧ Below w.heap.size w w' := by
  subst hn
  have hb0 : Below w.heap.size w (w.alloc (.cells #[.int .i64 W, .int .i64 H, .slice A l.length c] 24)) := (Below.refl _ _).alloc (Nat.le_refl _) _
  have key := check_any W H A c l _ ((hl.keep hb0 (Nat.le_refl _)).more hb0.size) hlen
  have hlk : lk W H l k = if gchk W H l ≠ 0 then gchk W H l else if k < 1 ∨ 8 < k then 1 else 0 := rfl
  generalize lk W H l k = r at hlk ⊢
  generalize gchk W H l = g at key hlk
  have KEY := Lib.hid key
  clear key hl
  by_cases hg : g = 0
  · subst hg
    rw [if_neg (by simp)] at hlk
    rcases (show k < 1 ∨ (1 ≤ k ∧ 8 < k) ∨ (1 ≤ k ∧ k ≤ 8) from by omega) with h | h | h
    all_goals
      obtain rfl : r = _ := hlk
      first
        | rw [if_pos (by omega)]
        | rw [if_neg (by omega)]
      go_enter Try.func43, Try.ntmps43
      go_wp2_with fail
      refine KEY.out.mono ?_
      rintro e w1 ⟨rfl, hb1⟩
      have hB1 := hb0.trans (hb1.mono (by simp))
      clear hb0
      go_wp2
      go_ret
      exact ⟨rfl, hB1⟩
  · rw [if_pos hg] at hlk
    have g0 : (g != 0) = true := by simp [hg]
    subst hlk
    go_enter Try.func43, Try.ntmps43
    go_wp2_with fail
    refine KEY.out.mono ?_
    rintro e w1 ⟨rfl, hb1⟩
    have hB1 := hb0.trans (hb1.mono (by simp))
    clear hb0
    go_wp2
    go_ret
    exact ⟨rfl, hB1⟩
theorem sq_parts {W k v : Int} (hW : 1 ≤ W) (hW8 : W ≤ 8) (hk : 1 ≤ k) (hk8 : k ≤ 8) (h0 : 0 ≤ v) (h1 : v ≤ 64) :
    (0 ≤ v / W ∧ v / W ≤ 64) ∧ (0 ≤ v / W / k ∧ v / W / k ≤ 64) ∧ (0 ≤ (W + k - 1) / k ∧ (W + k - 1) / k ≤ 15) ∧ (0 ≤ v % W ∧ v % W ≤ 8) ∧ (0 ≤ v % W / k ∧ v % W / k ≤ 8) ∧ (0 ≤ v / W / k * ((W + k - 1) / k) ∧ v / W / k * ((W + k - 1) / k) ≤ 960) := by
  have le_div : ∀ a b : Int, 0 ≤ a → 1 ≤ b → 0 ≤ a / b ∧ a / b ≤ a := fun a b ha hb => ⟨Int.ediv_nonneg ha (by omega), Int.ediv_le_self _ ha⟩
  have a1 := le_div v W h0 hW
  have a2 := le_div (v / W) k a1.1 hk
  have a3 := le_div (W + k - 1) k (by omega) hk
  have a4 := Int.emod_nonneg v (show W ≠ 0 by omega)
  have a5 := Int.emod_lt_of_pos v (show 0 < W by omega)
  have a6 := le_div (v % W) k a4 hk
  have a7 : v / W / k * ((W + k - 1) / k) ≤ 64 * 15 := Int.mul_le_mul (by omega) (by omega) a3.1 (by omega)
  have a8 : 0 ≤ v / W / k * ((W + k - 1) / k) := Int.mul_nonneg a2.1 a3.1
  exact ⟨⟨a1.1, by omega⟩, ⟨a2.1, by omega⟩, ⟨a3.1, by omega⟩, ⟨a4, by omega⟩, ⟨a6.1, by omega⟩, ⟨a8, by omega⟩⟩
set_option maxRecDepth 100000 in
set_option maxHeartbeats 1000000 in
theorem square_any (W H k v : Int) (A : Option Addr) (n c : Nat) (w : World) (hW : 1 ≤ W) (hW8 : W ≤ 8) (hk : 1 ≤ k) (hk8 : k ≤ 8) (h0 : 0 ≤ v) (h1 : v ≤ 64) :
    Calls Try.prog 49 #[.agg #[.int .i64 W, .int .i64 H, .slice A n c], .int .i64 k, .int .i64 v] w fun e w' => e = .returned (.int .i64 (sq W k v)) ∧ Below w.heap.size w w' := by
  obtain ⟨⟨b1, b2⟩, ⟨b3, b4⟩, ⟨b5, b6⟩, ⟨b7, b8⟩, ⟨b9, b10⟩, ⟨b11, b12⟩⟩ := sq_parts hW hW8 hk hk8 h0 h1
  have hB : Below w.heap.size w (w.alloc (.cells #[.int .i64 W, .int .i64 H, .slice A n c] 24)) := (Below.refl _ _).alloc (Nat.le_refl _) _
  have t1 : v.tmod W = v % W := Int.tmod_eq_emod_of_nonneg h0
  have t2 : v.tdiv W = v / W := Int.tdiv_eq_ediv_of_nonneg h0
  have t3 : (W == 0) = false := beq_eq_false_iff_ne.2 (by omega)
  have t4 : (k == 0) = false := beq_eq_false_iff_ne.2 (by omega)
  have t5 : (v / W).tdiv k = v / W / k := Int.tdiv_eq_ediv_of_nonneg b1
  have t6 : (W + k - 1).tdiv k = (W + k - 1) / k := Int.tdiv_eq_ediv_of_nonneg (by omega)
  have t7 : (v % W).tdiv k = v % W / k := Int.tdiv_eq_ediv_of_nonneg b7
  have hsq : sq W k v = v / W / k * ((W + k - 1) / k) + v % W / k := rfl
  generalize sq W k v = r at hsq ⊢
  generalize v % W = x1 at *
  generalize v / W = x2 at *
  generalize x2 / k = x3 at *
  generalize (W + k - 1) / k = x4 at *
  generalize x1 / k = x5 at *
  generalize hx6 : x3 * x4 = x6 at *
  subst hsq
  go_enter Try.func49, Try.ntmps49
  go_wp2
  go_quiet (fail)
  go_wp2
  go_ret
  exact ⟨rfl, below_drewN hB _⟩
/-- what Square answers: a fault, or the square -/
def sqr (W H : Int) (l : List Int) (k v : Int) : Int × Int := if lk W H l k ≠ 0 then (0, lk W H l k) else if v < 0 ∨ (l.length : Int) ≤ v then (0, 1) else (sq W k v, 0)
set_option maxRecDepth 100000 in
set_option maxHeartbeats 1000000 in
theorem Square_any (W H k v : Int) (A : Option Addr) (n c : Nat) (l : List Int) (w : World) (hn : l.length = n) (hl : Sl w w.heap.size 1 ci A l) (hlen : n ≤ 9223372036854775807) :
    Calls Try.prog 21 #[.agg #[.int .i64 W, .int .i64 H, .slice A n c], .int .i64 k, .int .i64 v] w fun e w' => e = .returned (.tuple #[.int .i64 (sqr W H l k v).1, .int .i64 (sqr W H l k v).2]) ∧ Below w.heap.size w w' := by
  have hb0 : Below w.heap.size w (w.alloc (.cells #[.int .i64 W, .int .i64 H, .slice A n c] 24)) := (Below.refl _ _).alloc (Nat.le_refl _) _
  have hQ := heap_alloc_new w (.cells #[.int .i64 W, .int .i64 H, .slice A n c] 24)
  have key := look_any W H k A n c l _ hn ((hl.keep hb0 (Nat.le_refl _)).more hb0.size) hlen
  have KEY := Lib.hid key
  clear key hl
  by_cases hg : lk W H l k = 0
  · obtain ⟨gg, k1, k8⟩ := lk_zero.1 hg
    have hw1 := gg.w1
    have hw8 := gg.w8
    have hcells : (l.length : Int) ≤ 64 := by
      have h2 := gg.len
      have h3 : W * H ≤ 8 * 8 := Int.mul_le_mul gg.w8 gg.h8 (by have := gg.h1; omega) (by omega)
      omega
    have hs : sqr W H l k v = if v < 0 ∨ (n : Int) ≤ v then (0, 1) else (sq W k v, 0) := by rw [← hn, sqr, if_neg (by simp [hg])]
    rw [hg] at KEY
    rw [hs]
    clear hs hg gg
    rcases (show v < 0 ∨ (0 ≤ v ∧ (n : Int) ≤ v) ∨ (0 ≤ v ∧ v < n) from by omega) with h | h | h
    · rw [if_pos (.inl h)]
      clear hn hcells
      go_enter Try.func21, Try.ntmps21
      go_wp2_with fail
      refine KEY.out.mono ?_
      rintro e w1 ⟨rfl, hb1⟩
      have hB1 := hb0.trans (hb1.mono (by simp))
      clear hb0
      go_wp2
      go_ret2
      exact ⟨rfl, hB1⟩
    · rw [if_pos (.inr h.2)]
      clear hn hcells
      go_enter Try.func21, Try.ntmps21
      go_wp2_with fail
      refine KEY.out.mono ?_
      rintro e w1 ⟨rfl, hb1⟩
      have hB1 := hb0.trans (hb1.mono (by simp))
      have q2 := blk_cell (blk_below hQ hb1 (by simp)) 2
      simp only [List.getElem?_toArray, List.getElem?_cons_zero, List.getElem?_cons_succ] at q2
      clear hb0
      go_wp2
      go_ret2
      exact ⟨rfl, hB1⟩
    · rw [if_neg (by omega)]
      have hv64 : v ≤ 64 := by rw [hn] at hcells; omega
      have ks := fun W' => square_any W H k v A n c W' hw1 hw8 k1 k8 h.1 hv64
      have KS := Lib.hid ks
      clear hn hcells ks
      go_enter Try.func21, Try.ntmps21
      go_wp2_with fail
      refine KEY.out.mono ?_
      rintro e w1 ⟨rfl, hb1⟩
      have hB1 := hb0.trans (hb1.mono (by simp))
      have q0 := blk_cell (blk_below hQ hb1 (by simp)) 0
      have q1 := blk_cell (blk_below hQ hb1 (by simp)) 1
      have q2 := blk_cell (blk_below hQ hb1 (by simp)) 2
      simp only [List.getElem?_toArray, List.getElem?_cons_zero, List.getElem?_cons_succ] at q0 q1 q2
      clear hb0
      go_wp2_with fail
      refine (KS.out _).mono ?_
      rintro e w2 ⟨rfl, hb2⟩
      have hB2 := hB1.trans (hb2.mono hB1.size)
      go_wp2
      go_ret2
      exact ⟨rfl, hB2⟩
  · have hs : sqr W H l k v = (0, lk W H l k) := by rw [sqr, if_pos hg]
    rw [hs]
    generalize lk W H l k = g at KEY hg
    have g0 : (g != 0) = true := by simp [hg]
    clear hs
    go_enter Try.func21, Try.ntmps21
    go_wp2_with fail
    refine KEY.out.mono ?_
    rintro e w1 ⟨rfl, hb1⟩
    have hB1 := hb0.trans (hb1.mono (by simp))
    clear hb0
    go_wp2
    go_ret2
    exact ⟨rfl, hB1⟩
end Go.Proofs.Ytbgkkmcobijkgaa.Hier
