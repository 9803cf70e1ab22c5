/- For all fractions: RatioSums answers true (Add and Mul are the same in any order, and a product is spread over a sum where results are fractions), and the arguments read as before. No condition. -/
import Derived.Test.YthlhlglmkcbgaaaRows
import Derived.Test.YthlhlglmkcbgaaaRatioWalks
namespace Go.Proofs.Ythlhlglmkcbgaaa.RatioSumsLaw
open Go.ChangeShapes Go.WideShapes Go.ChangeAt Go.RowKit Go.Proofs.Ythlhlglmkcbgaaa RatioLaw Ratio
set_option linter.unusedSimpArgs false
set_option linter.unusedVariables false

theorem ad_zero (a b c d : Int) : (ad a b c d).2.2 ≠ 0 → (ad a b c d).2.1 = 0 := by
  unfold ad ft
  repeat' split
  all_goals simp
theorem ad_den (a b c d : Int) (h : (ad a b c d).2.2 = 0) : (ad a b c d).2.1 ≠ 0 := by
  have := ad_ok (a := a) (b := b) (c := c) (d := d) (x := (ad a b c d).1) (y := (ad a b c d).2.1) (by rw [← h])
  have := this.2.2.1.1
  omega

set_option maxHeartbeats 2000000 in
theorem walk (a b : Int) (_ha : -9223372036854775808 ≤ a ∧ a ≤ 9223372036854775807) (_hb : -9223372036854775808 ≤ b ∧ b ≤ 9223372036854775807)
    (c d : Int) (_hc : -9223372036854775808 ≤ c ∧ c ≤ 9223372036854775807) (_hd : -9223372036854775808 ≤ d ∧ d ≤ 9223372036854775807)
    (m n : Int) (_hm : -9223372036854775808 ≤ m ∧ m ≤ 9223372036854775807) (_hn : -9223372036854775808 ≤ n ∧ n ≤ 9223372036854775807) (w : World) :
    Calls Try.prog 6 #[.agg #[.int .i64 a, .int .i64 b], .agg #[.int .i64 c, .int .i64 d], .agg #[.int .i64 m, .int .i64 n]] w fun e w' => e = .returned (.bool true) ∧ Below w.heap.size w w' := by
  clear _ha _hb _hc _hd _hm _hn
  have k0 := fun W => add_any 1 3 1 6 W
  rw [show ad 1 3 1 6 = (1, 2, 0) from by decide +kernel] at k0
  have k1 := fun W => add_any a b c d W
  have k2 := fun W => add_any c d a b W
  have k3 := fun W => mul_any a b c d W
  have k4 := fun W => mul_any c d a b W
  rw [ad_comm a b c d] at k2
  rw [mu_comm a b c d] at k4
  have k5 := fun W => mul_any a b m n W
  have k6 := fun W => mul_any c d m n W
  have k7 := fun W => mul_any (ad a b c d).1 (ad a b c d).2.1 m n W
  have k8 := fun W => add_any (mu a b m n).1 (mu a b m n).2.1 (mu c d m n).1 (mu c d m n).2.1 W
  have den := ad_zero a b c d
  have den2 := ad_den a b c d
  have law : (ad a b c d).2.2 = 0 → (mu a b m n).2.2 = 0 → (mu c d m n).2.2 = 0 → (mu (ad a b c d).1 (ad a b c d).2.1 m n).2.2 = 0 → (ad (mu a b m n).1 (mu a b m n).2.1 (mu c d m n).1 (mu c d m n).2.1).2.2 = 0 →
      (mu (ad a b c d).1 (ad a b c d).2.1 m n).1 = (ad (mu a b m n).1 (mu a b m n).2.1 (mu c d m n).1 (mu c d m n).2.1).1 ∧ (mu (ad a b c d).1 (ad a b c d).2.1 m n).2.1 = (ad (mu a b m n).1 (mu a b m n).2.1 (mu c d m n).1 (mu c d m n).2.1).2.1 := by
    intro h1 h2 h3 h4 h5
    exact spread (a := a) (b := b) (c := c) (d := d) (e := m) (f := n) (by rw [← h1]) (by rw [← h2]) (by rw [← h3]) (by rw [← h4]) (by rw [← h5])
  generalize ad (mu a b m n).1 (mu a b m n).2.1 (mu c d m n).1 (mu c d m n).2.1 = R at *
  generalize mu (ad a b c d).1 (ad a b c d).2.1 m n = L at *
  generalize mu c d m n = BC at *
  generalize mu a b m n = AC at *
  generalize mu a b c d = M at *
  generalize ad a b c d = P at *
  obtain ⟨p1, p2, p3⟩ := P
  obtain ⟨m1, m2, m3⟩ := M
  obtain ⟨ac1, ac2, ac3⟩ := AC
  obtain ⟨bc1, bc2, bc3⟩ := BC
  obtain ⟨l1, l2, l3⟩ := L
  obtain ⟨r1, r2, r3⟩ := R
  simp only at k1 k2 k3 k4 k5 k6 k7 k8 den den2 law
  have K0 := Lib.hid k0
  have K1 := Lib.hid k1
  have K2 := Lib.hid k2
  have K3 := Lib.hid k3
  have K4 := Lib.hid k4
  have K5 := Lib.hid k5
  have K6 := Lib.hid k6
  have K7 := Lib.hid k7
  have K8 := Lib.hid k8
  have DEN := Lib.hid den
  have DEN2 := Lib.hid den2
  have LAW := Lib.hid law
  clear k0 k1 k2 k3 k4 k5 k6 k7 k8 den den2 law
  go_enter Try.func6, Try.ntmps6
  go_wp2_with fail
  refine (K0.out _).mono ?_
  rintro e w1 ⟨rfl, hb1⟩
  have B1 : Below (w.heap.size + 3) _ w1 := hb1.mono (by simp)
  have z1 : w.heap.size + 3 ≤ w1.heap.size := by have := hb1.size; simp at this; omega
  obtain ⟨ya1, yb1, yc1⟩ := lt3 z1
  obtain ⟨c1, f1⟩ := keepN B1
  go_wp2_with fail
  refine (K1.out _).mono ?_
  rintro e w2 ⟨rfl, hb2⟩
  have B2 := (B1.alloc z1 _).trans (hb2.mono (by simp; omega))
  have z2 : w.heap.size + 3 ≤ w2.heap.size := by have := hb2.size; simp at this; omega
  obtain ⟨ya2, yb2, yc2⟩ := lt3 z2
  obtain ⟨c2, f2⟩ := keepN B2
  clear c1 f1
  go_wp2_with fail
  refine (K2.out _).mono ?_
  rintro e w3 ⟨rfl, hb3⟩
  have B3 := (B2.alloc z2 _).trans (hb3.mono (by simp; omega))
  have z3 : w.heap.size + 3 ≤ w3.heap.size := by have := hb3.size; simp at this; omega
  obtain ⟨ya3, yb3, yc3⟩ := lt3 z3
  obtain ⟨c3, f3⟩ := keepN B3
  have up3 : w2.heap.size < w3.heap.size := by have := hb3.size; simp at this; omega
  have Lp3 : Below (w2.heap.size + 1) _ w3 := hb3.mono (by simp)
  obtain ⟨cp3, fp3⟩ := keepAt Lp3 (Nat.lt_succ_self _)
  clear c2 f2
  go_wp2_with fail
  refine (K3.out _).mono ?_
  rintro e w4 ⟨rfl, hb4⟩
  have B4 := (B3.alloc z3 _).trans (hb4.mono (by simp; omega))
  have z4 : w.heap.size + 3 ≤ w4.heap.size := by have := hb4.size; simp at this; omega
  obtain ⟨ya4, yb4, yc4⟩ := lt3 z4
  obtain ⟨c4, f4⟩ := keepN B4
  have up4 : w2.heap.size < w4.heap.size := by have := hb4.size; simp at this; omega
  have Lp4 := (Lp3.alloc (by omega) _).trans (hb4.mono (by simp; omega))
  obtain ⟨cp4, fp4⟩ := keepAt Lp4 (Nat.lt_succ_self _)
  have uq4 : w3.heap.size < w4.heap.size := by have := hb4.size; simp at this; omega
  have Lq4 : Below (w3.heap.size + 1) _ w4 := hb4.mono (by simp)
  obtain ⟨cq4, fq4⟩ := keepAt Lq4 (Nat.lt_succ_self _)
  clear c3 f3 cp3 fp3
  go_wp2_with fail
  refine (K4.out _).mono ?_
  rintro e w5 ⟨rfl, hb5⟩
  have B5 := (B4.alloc z4 _).trans (hb5.mono (by simp; omega))
  have z5 : w.heap.size + 3 ≤ w5.heap.size := by have := hb5.size; simp at this; omega
  obtain ⟨ya5, yb5, yc5⟩ := lt3 z5
  obtain ⟨c5, f5⟩ := keepN B5
  have up5 : w2.heap.size < w5.heap.size := by have := hb5.size; simp at this; omega
  have Lp5 := (Lp4.alloc (by omega) _).trans (hb5.mono (by simp; omega))
  obtain ⟨cp5, fp5⟩ := keepAt Lp5 (Nat.lt_succ_self _)
  have uq5 : w3.heap.size < w5.heap.size := by have := hb5.size; simp at this; omega
  have Lq5 := (Lq4.alloc (by omega) _).trans (hb5.mono (by simp; omega))
  obtain ⟨cq5, fq5⟩ := keepAt Lq5 (Nat.lt_succ_self _)
  have ur5 : w4.heap.size < w5.heap.size := by have := hb5.size; simp at this; omega
  have Lr5 : Below (w4.heap.size + 1) _ w5 := hb5.mono (by simp)
  obtain ⟨cr5, fr5⟩ := keepAt Lr5 (Nat.lt_succ_self _)
  clear c4 f4 cp4 fp4 cq4 fq4
  go_wp2_with fail
  refine (K5.out _).mono ?_
  rintro e w6 ⟨rfl, hb6⟩
  have B6 := (B5.alloc z5 _).trans (hb6.mono (by simp; omega))
  have z6 : w.heap.size + 3 ≤ w6.heap.size := by have := hb6.size; simp at this; omega
  obtain ⟨ya6, yb6, yc6⟩ := lt3 z6
  obtain ⟨c6, f6⟩ := keepN B6
  have up6 : w2.heap.size < w6.heap.size := by have := hb6.size; simp at this; omega
  have Lp6 := (Lp5.alloc (by omega) _).trans (hb6.mono (by simp; omega))
  obtain ⟨cp6, fp6⟩ := keepAt Lp6 (Nat.lt_succ_self _)
  clear c5 f5 cp5 fp5 cq5 fq5 cr5 fr5
  go_wp2_with fail
  refine (K6.out _).mono ?_
  rintro e w7 ⟨rfl, hb7⟩
  have B7 := (B6.alloc z6 _).trans (hb7.mono (by simp; omega))
  have z7 : w.heap.size + 3 ≤ w7.heap.size := by have := hb7.size; simp at this; omega
  obtain ⟨ya7, yb7, yc7⟩ := lt3 z7
  obtain ⟨c7, f7⟩ := keepN B7
  have up7 : w2.heap.size < w7.heap.size := by have := hb7.size; simp at this; omega
  have Lp7 := (Lp6.alloc (by omega) _).trans (hb7.mono (by simp; omega))
  obtain ⟨cp7, fp7⟩ := keepAt Lp7 (Nat.lt_succ_self _)
  have uac7 : w6.heap.size < w7.heap.size := by have := hb7.size; simp at this; omega
  have Lac7 : Below (w6.heap.size + 1) _ w7 := hb7.mono (by simp)
  obtain ⟨cac7, fac7⟩ := keepAt Lac7 (Nat.lt_succ_self _)
  clear c6 f6 cp6 fp6
  go_wp2_with fail
  refine (K7.out _).mono ?_
  rintro e w8 ⟨rfl, hb8⟩
  have B8 := (B7.alloc z7 _).trans (hb8.mono (by simp; omega))
  have z8 : w.heap.size + 3 ≤ w8.heap.size := by have := hb8.size; simp at this; omega
  obtain ⟨ya8, yb8, yc8⟩ := lt3 z8
  obtain ⟨c8, f8⟩ := keepN B8
  have up8 : w2.heap.size < w8.heap.size := by have := hb8.size; simp at this; omega
  have Lp8 := (Lp7.alloc (by omega) _).trans (hb8.mono (by simp; omega))
  obtain ⟨cp8, fp8⟩ := keepAt Lp8 (Nat.lt_succ_self _)
  have uac8 : w6.heap.size < w8.heap.size := by have := hb8.size; simp at this; omega
  have Lac8 := (Lac7.alloc (by omega) _).trans (hb8.mono (by simp; omega))
  obtain ⟨cac8, fac8⟩ := keepAt Lac8 (Nat.lt_succ_self _)
  have ubc8 : w7.heap.size < w8.heap.size := by have := hb8.size; simp at this; omega
  have Lbc8 : Below (w7.heap.size + 1) _ w8 := hb8.mono (by simp)
  obtain ⟨cbc8, fbc8⟩ := keepAt Lbc8 (Nat.lt_succ_self _)
  clear c7 f7 cp7 fp7 cac7 fac7
  go_wp2_with fail
  refine (K8.out _).mono ?_
  rintro e w9 ⟨rfl, hb9⟩
  have B9 := (B8.alloc z8 _).trans (hb9.mono (by simp; omega))
  have z9 : w.heap.size + 3 ≤ w9.heap.size := by have := hb9.size; simp at this; omega
  obtain ⟨ya9, yb9, yc9⟩ := lt3 z9
  obtain ⟨c9, f9⟩ := keepN B9
  have up9 : w2.heap.size < w9.heap.size := by have := hb9.size; simp at this; omega
  have Lp9 := (Lp8.alloc (by omega) _).trans (hb9.mono (by simp; omega))
  obtain ⟨cp9, fp9⟩ := keepAt Lp9 (Nat.lt_succ_self _)
  have ul9 : w8.heap.size < w9.heap.size := by have := hb9.size; simp at this; omega
  have Ll9 : Below (w8.heap.size + 1) _ w9 := hb9.mono (by simp)
  obtain ⟨cl9, fl9⟩ := keepAt Ll9 (Nat.lt_succ_self _)
  clear c8 f8 cp8 fp8 cac8 fac8 cbc8 fbc8
  have hB : Below w.heap.size w w9 := ((((Below.refl _ _).alloc (Nat.le_refl _) _).alloc (by simp) _).alloc (by simp; omega) _).trans (B9.mono (by omega))
  have hE := hB.alloc (by omega) (.cells #[Value.int IntKind.i64 r1, Value.int IntKind.i64 r2] 23)
  clear c9 f9 hb1 hb2 hb3 hb4 hb5 hb6 hb7 hb8 hb9
  have cases5 : (p2 == 0) = true ∨ ((p2 == 0) = false ∧ (ac3 != 0) = true) ∨ ((p2 == 0) = false ∧ (ac3 != 0) = false ∧ (bc3 != 0) = true) ∨ ((p2 == 0) = false ∧ (ac3 != 0) = false ∧ (bc3 != 0) = false ∧ (l3 != 0) = true) ∨
      ((p2 == 0) = false ∧ (ac3 != 0) = false ∧ (bc3 != 0) = false ∧ (l3 != 0) = false ∧ (r3 != 0) = true) ∨ ((p2 == 0) = false ∧ (ac3 != 0) = false ∧ (bc3 != 0) = false ∧ (l3 != 0) = false ∧ (r3 != 0) = false ∧ (l1 = r1 ∧ l2 = r2)) := by
    have DEN := DEN.out
    have LAW := LAW.out
    simp only [beq_iff_eq, bne_iff_ne, beq_eq_false_iff_ne, bne_eq_false_iff_eq, ne_eq]
    by_cases e1 : p2 = 0
    · exact .inl e1
    · by_cases e2 : ac3 = 0
      · by_cases e3 : bc3 = 0
        · by_cases e4 : l3 = 0
          · by_cases e5 : r3 = 0
            · exact .inr (.inr (.inr (.inr (.inr ⟨e1, e2, e3, e4, e5, LAW (by by_cases q : p3 = 0; exact q; exact absurd (DEN q) e1) e2 e3 e4 e5⟩))))
            · exact .inr (.inr (.inr (.inr (.inl ⟨e1, e2, e3, e4, e5⟩))))
          · exact .inr (.inr (.inr (.inl ⟨e1, e2, e3, e4⟩)))
        · exact .inr (.inr (.inl ⟨e1, e2, e3⟩))
      · exact .inr (.inl ⟨e1, e2⟩)
  clear DEN DEN2 LAW
  rcases cases5 with g1 | ⟨g1, g2⟩ | ⟨g1, g2, g3⟩ | ⟨g1, g2, g3, g4⟩ | ⟨g1, g2, g3, g4, g5⟩ | ⟨g1, g2, g3, g4, g5, rfl, rfl⟩
  all_goals
    go_wp2
    go_ret
    exact ⟨rfl, hE⟩

theorem own : ownKnob Try.prog.godebug = none := by kernel_rfl
theorem laidOut : laidOutB Try.prog = true := by kernel_rfl

set_option maxRecDepth 100000 in
theorem lifted (os : Os) (started : os.Started) (H : Type) (enc : TypeId × Value → H) :
    ReturnsInHanded {} Try.checked os 6 .any (Rows.ratioSumsSpec.pre6 enc Try.prog Try.f6 Rows.ratioSumsRow.domain false) (Rows.ratioSumsSpec.post enc Try.prog Try.f6 false true false false) := by
  refine returnsInHanded_of_change (C := Try.checked) own started (by kernel_rfl) Try.func6
    (ChangeSpec.witness6 (enc := enc) (C := Try.checked) false ⟨#[], #[.agg #[.int .i64 0, .int .i64 0], .agg #[.int .i64 0, .int .i64 0], .agg #[.int .i64 0, .int .i64 0]], []⟩ 8 (by kernel_rfl) (by kernel_rfl) (by kernel_rfl) (by kernel_rfl)) ?_
  intro W base args ds gs before hval0 hW hcnd _
  have hval : ∀ (j : Nat) t v, Try.f6.params[j]? = some t → args[j]? = some v → Value.okWide Try.prog W .any base t v := hval0
  have hW' := hW
  obtain ⟨p, q, hA0, hV, rfl, hfz, hnd⟩ := hW
  have hA : DataW.TrodAll enc Try.prog W 0 (fun _ => true) true Try.f6.params.toList args.toList ds p := hA0
  rw [Try.params6] at hA hval
  obtain ⟨v0, vs0, d0, ds0, p0, q0, hargs, rfl, rfl, h0, r0⟩ := trodAll_cons hA
  obtain ⟨v1, vs1, d1, ds1, p1, q1, rfl, rfl, rfl, h1, r1⟩ := trodAll_cons r0
  obtain ⟨v2, vs2, d2, ds2, p2, q2, rfl, rfl, rfl, h2, r2⟩ := trodAll_cons r1
  obtain ⟨rfl, rfl, rfl⟩ := trodAll_nil r2
  obtain rfl : args = #[v0, v1, v2] := by cases args; simp_all
  obtain ⟨rfl, rfl⟩ := trodVars_none hV
  obtain ⟨a0, b0, rfl, rfl, rfl, ha0, hb0⟩ := open_ii Try.underlying23 (by kernel_rfl) (by kernel_rfl) Try.underlying3 Try.underlying3 (hval 0 23 v0 rfl rfl) h0
  obtain ⟨a1, b1, rfl, rfl, rfl, ha1, hb1⟩ := open_ii Try.underlying23 (by kernel_rfl) (by kernel_rfl) Try.underlying3 Try.underlying3 (hval 1 23 v1 rfl rfl) h1
  obtain ⟨a2, b2, rfl, rfl, rfl, ha2, hb2⟩ := open_ii Try.underlying23 (by kernel_rfl) (by kernel_rfl) Try.underlying3 Try.underlying3 (hval 2 23 v2 rfl rfl) h2
  refine (walk a0 b0 ha0 hb0 a1 b1 ha1 hb1 a2 b2 ha2 hb2 W).mono fun e W' ⟨he, hB⟩ => ?_
  subst he
  exact ⟨_, rfl, post_of_law laidOut rfl Try.underlying4 rfl (by intro t ht; rw [Try.params6] at ht; simp at ht; rcases ht with rfl | rfl | rfl <;> exact ⟨by kernel_rfl, of_decide_eq_true (by kernel_rfl)⟩) hW' rfl hB⟩

theorem holds : Rows.RatioSumsSaid :=
  OpenClaim.holds_of_wide 6 Try.f6 rfl rfl rfl rfl rfl rfl rfl ⟨rfl, rfl, rfl, rfl, rfl⟩ rfl rfl rfl rfl rfl (by kernel_rfl) Try.func6 (by kernel_rfl)
    (of_decide_eq_true (by kernel_rfl)) (by unfold Func.isWrapper; first | (rw [if_pos (by decide +kernel)]; kernel_rfl) | (rw [if_neg (by decide +kernel)]; exact ⟨rfl, rfl⟩))
    (fun os started H enc _ => lifted os started H enc)
#print axioms holds
end Go.Proofs.Ythlhlglmkcbgaaa.RatioSumsLaw
