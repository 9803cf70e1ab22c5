/- For all fractions: RatioOrders answers true (Cmp is a total order on fractions in lowest terms), and the arguments read as before. No condition. -/
import Derived.Test.YthlhlglmkcbgaaaRows
import Derived.Test.YthlhlglmkcbgaaaRatioWalks
namespace Go.Proofs.Ythlhlglmkcbgaaa.RatioOrdersLaw
open Go.ChangeShapes Go.WideShapes Go.ChangeAt Go.RowKit Go.Proofs.Ythlhlglmkcbgaaa RatioLaw Ratio
set_option linter.unusedSimpArgs false
set_option linter.unusedVariables false

/-- what Cmp answers, whatever comes in: its number and its error -/
def cn (a b c d : Int) : Int := if Ok a b ∧ Ok c d then cm a b c d else 0
def ce (a b c d : Int) : Int := if Ok a b ∧ Ok c d then 0 else 3
theorem cmp_any (a b c d : Int) (w : World) :
    Calls Try.prog 18 #[.agg #[.int .i64 a, .int .i64 b], .agg #[.int .i64 c, .int .i64 d]] w fun e w' => e = .returned (.tuple #[.int .i64 (cn a b c d), .int .i64 (ce a b c d)]) ∧ Below w.heap.size w w' := by
  by_cases h : Ok a b ∧ Ok c d
  · have e1 : cn a b c d = cm a b c d := by rw [cn, if_pos h]
    have e2 : ce a b c d = 0 := by rw [ce, if_pos h]
    rw [e1, e2]
    exact cmp_yes a b c d w h.1 h.2
  · have e1 : cn a b c d = 0 := by rw [cn, if_neg h]
    have e2 : ce a b c d = 3 := by rw [ce, if_neg h]
    rw [e1, e2]
    exact cmp_no a b c d w h

/-- what the law wants of the four answers -/
structure Law (a b c d x y z u e f g h : Int) : Prop where
  bd : -1 ≤ x ∧ x ≤ 1 ∧ -1 ≤ y ∧ y ≤ 1
  no : e ≠ 0 → x = 0
  yes : e = 0 → g = 0 → f = 0 ∧ h = 0 ∧ x = -y ∧ (x = 0 ↔ a = c ∧ b = d) ∧ (x ≤ 0 → z ≤ 0 → u ≤ 0)
theorem law (a b c d m n : Int) : Law a b c d (cn a b c d) (cn c d a b) (cn c d m n) (cn a b m n) (ce a b c d) (ce c d a b) (ce c d m n) (ce a b m n) := by
  refine ⟨?_, ?_, ?_⟩
  · have h1 := cm_bd a b c d
    have h2 := cm_bd c d a b
    unfold cn
    repeat' split
    all_goals omega
  · intro he
    unfold ce at he
    unfold cn
    split at he
    · omega
    · rw [if_neg (by assumption)]
  · intro he hg
    have k1 : Ok a b ∧ Ok c d := by
      unfold ce at he; split at he
      · assumption
      · omega
    have k2 : Ok c d ∧ Ok m n := by
      unfold ce at hg; split at hg
      · assumption
      · omega
    unfold cn ce
    rw [if_pos k1, if_pos ⟨k1.2, k1.1⟩, if_pos ⟨k1.1, k2.2⟩, if_pos ⟨k1.2, k1.1⟩, if_pos k2, if_pos ⟨k1.1, k2.2⟩]
    exact ⟨rfl, rfl, cm_neg _ _ _ _, cm_zero k1.1 k1.2, cm_trans k1.1 k1.2 k2.2⟩

set_option maxHeartbeats 1000000 in
theorem walk (a b : Int) (_ha : -9223372036854775808 ≤ a ∧ a ≤ 9223372036854775807) (_hb : -9223372036854775808 ≤ b ∧ b ≤ 9223372036854775807)
    (c d : Int) (_hc : -9223372036854775808 ≤ c ∧ c ≤ 9223372036854775807) (_hd : -9223372036854775808 ≤ d ∧ d ≤ 9223372036854775807)
    (m n : Int) (_hm : -9223372036854775808 ≤ m ∧ m ≤ 9223372036854775807) (_hn : -9223372036854775808 ≤ n ∧ n ≤ 9223372036854775807) (w : World) :
    Calls Try.prog 4 #[.agg #[.int .i64 a, .int .i64 b], .agg #[.int .i64 c, .int .i64 d], .agg #[.int .i64 m, .int .i64 n]] w fun e w' => e = .returned (.bool true) ∧ Below w.heap.size w w' := by
  clear _ha _hb _hc _hd _hm _hn
  have key0 := fun W => cmp_yes 1 3 1 2 W (by decide) (by decide)
  have e0 : cm 1 3 1 2 = -1 := by decide
  rw [e0] at key0
  clear e0
  have KEY := Lib.hid key0
  clear key0
  have K1 := Lib.hid (fun W => cmp_any a b c d W)
  have K2 := Lib.hid (fun W => cmp_any c d a b W)
  have K3 := Lib.hid (fun W => cmp_any c d m n W)
  have K4 := Lib.hid (fun W => cmp_any a b m n W)
  have hlaw := law a b c d m n
  generalize cn a b c d = x at *
  generalize cn c d a b = y at *
  generalize cn c d m n = z at *
  generalize cn a b m n = u at *
  generalize ce a b c d = e at *
  generalize ce c d a b = f at *
  generalize ce c d m n = g at *
  generalize ce a b m n = h at *
  obtain ⟨⟨t1, t2, t3, t4⟩, hno, hyes⟩ := hlaw
  by_cases q : e = 0 ∧ g = 0
  · obtain ⟨rfl, rfl⟩ := q
    obtain ⟨rfl, rfl, exy, heq, htr⟩ := hyes rfl rfl
    have g1 : (x == -y) = true := by rw [beq_iff_eq]; exact exy
    have g2 : ((x == 0) == (a == c && b == d)) = true := by
      by_cases hx : x = 0
      · obtain ⟨rfl, rfl⟩ := heq.1 hx
        simp [hx]
      · have : ¬ (a = c ∧ b = d) := fun k => hx (heq.2 k)
        rw [beq_eq_false_iff_ne.2 hx]
        simp only [beq_iff_eq, Bool.eq_false_iff, ne_eq, Bool.and_eq_true]
        simpa using this
    clear exy heq hno hyes
    go_enter Try.func4, Try.ntmps4
    go_wp2_with fail
    refine (KEY.out _).mono ?_
    rintro e w1 ⟨rfl, hb⟩
    obtain ⟨hc1, hf1, hz1⟩ := bkeep (N := w.heap.size + 3) hb (by simp)
    have hB1 : Below w.heap.size w w1 := ((((Below.refl _ _).alloc (Nat.le_refl _) _).alloc (by simp) _).alloc (by simp; omega) _).trans (hb.mono (by simp; omega))
    go_wp2_with fail
    refine (K1.out _).mono ?_
    rintro e w2 ⟨rfl, hb2⟩
    obtain ⟨hc2, hf2, hz2⟩ := bkeep (N := w.heap.size + 3) hb2 (by omega)
    go_wp2_with fail
    refine (K2.out _).mono ?_
    rintro e w3 ⟨rfl, hb3⟩
    obtain ⟨hc3, hf3, hz3⟩ := bkeep (N := w.heap.size + 3) hb3 (by omega)
    go_wp2_with fail
    refine (K3.out _).mono ?_
    rintro e w4 ⟨rfl, hb4⟩
    obtain ⟨hc4, hf4, hz4⟩ := bkeep (N := w.heap.size + 3) hb4 (by omega)
    go_wp2_with fail
    refine (K4.out _).mono ?_
    rintro e w5 ⟨rfl, hb5⟩
    obtain ⟨hc5, hf5, hz5⟩ := bkeep (N := w.heap.size + 3) hb5 (by omega)
    have hB : Below w.heap.size w w5 := (((hB1.trans (hb2.mono (by omega))).trans (hb3.mono (by omega))).trans (hb4.mono (by omega))).trans (hb5.mono (by omega))
    cases h1 : (a == c) <;> cases h2 : (b == d)
    all_goals
      rw [h1, h2] at g2
      simp only [Bool.and_true, Bool.and_false, Bool.and_self, beq_false, beq_true, Bool.not_eq_true', Bool.true_and, Bool.false_and] at g2
      by_cases s1 : 0 < x
      · go_wp2
        go_ret
        exact ⟨rfl, hB⟩
      · by_cases s2 : 0 < z
        · go_wp2
          go_ret
          exact ⟨rfl, hB⟩
        · have s3 := htr (by omega) (by omega)
          clear htr
          go_wp2
          go_ret
          exact ⟨rfl, hB⟩
  · have hx : (e = 0 ∧ (g != 0) = true ∧ (g == 0) = false) ∨ (x = 0 ∧ (e != 0) = true ∧ (e == 0) = false) := by
      by_cases k : e = 0
      · exact .inl ⟨k, by rw [bne_iff_ne]; exact fun h => q ⟨k, h⟩, beq_eq_false_iff_ne.2 fun h => q ⟨k, h⟩⟩
      · exact .inr ⟨hno k, by rw [bne_iff_ne]; exact k, beq_eq_false_iff_ne.2 k⟩
    clear hyes hno q
    rcases hx with ⟨rfl, g1, g2⟩ | ⟨rfl, g1, g2⟩
    all_goals
      go_enter Try.func4, Try.ntmps4
      go_wp2_with fail
      refine (KEY.out _).mono ?_
      rintro e w1 ⟨rfl, hb⟩
      obtain ⟨hc1, hf1, hz1⟩ := bkeep (N := w.heap.size + 3) hb (by simp)
      have hB1 : Below w.heap.size w w1 := ((((Below.refl _ _).alloc (Nat.le_refl _) _).alloc (by simp) _).alloc (by simp; omega) _).trans (hb.mono (by simp; omega))
      go_wp2_with fail
      refine (K1.out _).mono ?_
      rintro e w2 ⟨rfl, hb2⟩
      obtain ⟨hc2, hf2, hz2⟩ := bkeep (N := w.heap.size + 3) hb2 (by omega)
      go_wp2_with fail
      refine (K2.out _).mono ?_
      rintro e w3 ⟨rfl, hb3⟩
      obtain ⟨hc3, hf3, hz3⟩ := bkeep (N := w.heap.size + 3) hb3 (by omega)
      go_wp2_with fail
      refine (K3.out _).mono ?_
      rintro e w4 ⟨rfl, hb4⟩
      obtain ⟨hc4, hf4, hz4⟩ := bkeep (N := w.heap.size + 3) hb4 (by omega)
      go_wp2_with fail
      refine (K4.out _).mono ?_
      rintro e w5 ⟨rfl, hb5⟩
      obtain ⟨hc5, hf5, hz5⟩ := bkeep (N := w.heap.size + 3) hb5 (by omega)
      have hB : Below w.heap.size w w5 := (((hB1.trans (hb2.mono (by omega))).trans (hb3.mono (by omega))).trans (hb4.mono (by omega))).trans (hb5.mono (by omega))
      go_wp2
      go_ret
      exact ⟨rfl, hB⟩

theorem own : ownKnob Try.prog.godebug = none := by kernel_rfl
theorem laidOut : laidOutB Try.prog = true := by kernel_rfl

set_option maxRecDepth 100000 in
theorem lifted (os : Os) (started : os.Started) (H : Type) (enc : TypeId × Value → H) :
    ReturnsInHanded {} Try.checked os 4 .any (Rows.ratioOrdersSpec.pre6 enc Try.prog Try.f4 Rows.ratioOrdersRow.domain false) (Rows.ratioOrdersSpec.post enc Try.prog Try.f4 false true false false) := by
  refine returnsInHanded_of_change (C := Try.checked) own started (by kernel_rfl) Try.func4
    (ChangeSpec.witness6 (enc := enc) (C := Try.checked) false ⟨#[], #[.agg #[.int .i64 0, .int .i64 0], .agg #[.int .i64 0, .int .i64 0], .agg #[.int .i64 0, .int .i64 0]], []⟩ 8 (by kernel_rfl) (by kernel_rfl) (by kernel_rfl) (by kernel_rfl)) ?_
  intro W base args ds gs before hval0 hW hcnd _
  have hval : ∀ (j : Nat) t v, Try.f4.params[j]? = some t → args[j]? = some v → Value.okWide Try.prog W .any base t v := hval0
  have hW' := hW
  obtain ⟨p, q, hA0, hV, rfl, hfz, hnd⟩ := hW
  have hA : DataW.TrodAll enc Try.prog W 0 (fun _ => true) true Try.f4.params.toList args.toList ds p := hA0
  rw [Try.params4] at hA hval
  obtain ⟨v0, vs0, d0, ds0, p0, q0, hargs, rfl, rfl, h0, r0⟩ := trodAll_cons hA
  obtain ⟨v1, vs1, d1, ds1, p1, q1, rfl, rfl, rfl, h1, r1⟩ := trodAll_cons r0
  obtain ⟨v2, vs2, d2, ds2, p2, q2, rfl, rfl, rfl, h2, r2⟩ := trodAll_cons r1
  obtain ⟨rfl, rfl, rfl⟩ := trodAll_nil r2
  obtain rfl : args = #[v0, v1, v2] := by cases args; simp_all
  obtain ⟨rfl, rfl⟩ := trodVars_none hV
  obtain ⟨a0, b0, rfl, rfl, rfl, ha0, hb0⟩ := open_ii Try.underlying23 (by kernel_rfl) (by kernel_rfl) Try.underlying3 Try.underlying3 (hval 0 23 v0 rfl rfl) h0
  obtain ⟨a1, b1, rfl, rfl, rfl, ha1, hb1⟩ := open_ii Try.underlying23 (by kernel_rfl) (by kernel_rfl) Try.underlying3 Try.underlying3 (hval 1 23 v1 rfl rfl) h1
  obtain ⟨a2, b2, rfl, rfl, rfl, ha2, hb2⟩ := open_ii Try.underlying23 (by kernel_rfl) (by kernel_rfl) Try.underlying3 Try.underlying3 (hval 2 23 v2 rfl rfl) h2
  refine (walk a0 b0 ha0 hb0 a1 b1 ha1 hb1 a2 b2 ha2 hb2 W).mono fun e W' ⟨he, hB⟩ => ?_
  subst he
  exact ⟨_, rfl, post_of_law laidOut rfl Try.underlying4 rfl (by intro t ht; rw [Try.params4] at ht; simp at ht; rcases ht with rfl | rfl | rfl <;> exact ⟨by kernel_rfl, of_decide_eq_true (by kernel_rfl)⟩) hW' rfl hB⟩

theorem holds : Rows.RatioOrdersSaid :=
  OpenClaim.holds_of_wide 4 Try.f4 rfl rfl rfl rfl rfl rfl rfl ⟨rfl, rfl, rfl, rfl, rfl⟩ rfl rfl rfl rfl rfl (by kernel_rfl) Try.func4 (by kernel_rfl)
    (of_decide_eq_true (by kernel_rfl)) (by unfold Func.isWrapper; first | (rw [if_pos (by decide +kernel)]; kernel_rfl) | (rw [if_neg (by decide +kernel)]; exact ⟨rfl, rfl⟩))
    (fun os started H enc _ => lifted os started H enc)
#print axioms holds
end Go.Proofs.Ythlhlglmkcbgaaa.RatioOrdersLaw
