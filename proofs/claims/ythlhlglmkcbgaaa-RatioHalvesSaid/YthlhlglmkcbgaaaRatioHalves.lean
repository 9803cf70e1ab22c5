/- For every fraction: RatioHalves answers true (its Floor and Ceil enclose it and are at most one apart, equal just where it is whole; Make of its parts gives it back), and the argument reads as before. No condition. -/
import Derived.Test.YthlhlglmkcbgaaaRows
import Derived.Test.YthlhlglmkcbgaaaRatioWalks
namespace Go.Proofs.Ythlhlglmkcbgaaa.RatioHalvesLaw
open Go.ChangeShapes Go.WideShapes Go.ChangeAt Go.RowKit Go.Proofs.Ythlhlglmkcbgaaa RatioLaw Ratio
set_option linter.unusedSimpArgs false
set_option linter.unusedVariables false

set_option maxHeartbeats 1000000 in
theorem walk (a b : Int) (ha : -9223372036854775808 ≤ a ∧ a ≤ 9223372036854775807) (w : World) :
    Calls Try.prog 3 #[.agg #[.int .i64 a, .int .i64 b]] w fun e w' => e = .returned (.bool true) ∧ Below w.heap.size w w' := by
  have key0 := fun W => ceil_yes (-7) 2 W (by decide)
  have e0 : (-(-(-7) / 2) : Int) = -3 := by decide
  rw [e0] at key0
  clear e0
  have KEY := Lib.hid key0
  clear key0
  by_cases h : Ok a b
  · have hv := halves h
    obtain ⟨p, hp⟩ : ∃ p, p = a / b := ⟨_, rfl⟩
    obtain ⟨q, hq⟩ : ∃ q, q = -(-a / b) := ⟨_, rfl⟩
    have k1 := fun W => floor_yes a b W h
    have k2 := fun W => ceil_yes a b W h
    have k3 := fun W => make_yes a b W h.2.2.1 h.2.2.2.1 h.1 h.2.1
    rw [h.2.2.2.2] at k3
    simp only [Int.natCast_one, Int.ediv_one] at k3
    rw [← hp, ← hq] at hv
    rw [← hp] at k1
    rw [← hq] at k2
    have K1 := Lib.hid k1
    have K2 := Lib.hid k2
    have K3 := Lib.hid k3
    clear k1 k2 k3 hp hq
    have t1 : ((p == q) == (b == 1)) = true := by
      by_cases hb : b = 1
      · simp [hv.1.2 hb, hb]
      · have : ¬ p = q := fun e => hb (hv.1.1 e)
        rw [beq_eq_false_iff_ne.2 hb, beq_eq_false_iff_ne.2 this]
        rfl
    have t2 : q - p ≤ 1 := hv.2.1
    have t3 : p ≤ q := hv.2.2
    clear hv h
    go_enter Try.func3, Try.ntmps3
    go_wp2_with fail
    refine (KEY.out _).mono ?_
    rintro e w1 ⟨rfl, hb⟩
    obtain ⟨hc1, hf1, _⟩ := bafter hb
    have hz1 : w.heap.size < w1.heap.size := by have := hb.size; simp at this; omega
    have hB1 : Below w.heap.size w w1 := ((Below.refl _ _).alloc (Nat.le_refl _) _).trans (hb.mono (by simp))
    go_wp2_with fail
    refine (K1.out _).mono ?_
    rintro e w2 ⟨rfl, hb2⟩
    obtain ⟨hc2, hf2, hz2⟩ := bafter hb2
    have hz3 : w.heap.size < w2.heap.size := by omega
    go_wp2_with fail
    refine (K2.out _).mono ?_
    rintro e w3 ⟨rfl, hb3⟩
    obtain ⟨hc3, hf3, hz4⟩ := bafter hb3
    have hz5 : w.heap.size < w3.heap.size := by omega
    go_wp2_with fail
    refine (K3.out _).mono ?_
    rintro e w4 ⟨rfl, hb4⟩
    obtain ⟨hc4, hf4, hz6⟩ := bafter hb4
    have hz7 : w.heap.size < w4.heap.size := by omega
    go_wp2
    go_ret
    exact ⟨rfl, ((((hB1.trans (hb2.mono (by omega))).trans (hb3.mono (by omega))).trans (hb4.mono (by omega))).alloc (by omega) _)⟩
  · go_enter Try.func3, Try.ntmps3
    go_wp2_with fail
    refine (KEY.out _).mono ?_
    rintro e w1 ⟨rfl, hb⟩
    obtain ⟨hc1, hf1, _⟩ := bafter hb
    have hz1 : w.heap.size < w1.heap.size := by have := hb.size; simp at this; omega
    have hB1 : Below w.heap.size w w1 := ((Below.refl _ _).alloc (Nat.le_refl _) _).trans (hb.mono (by simp))
    go_wp2_with fail
    refine (floor_no _ _ _ h).mono ?_
    rintro e w2 ⟨rfl, hb2⟩
    obtain ⟨hc2, hf2, hz2⟩ := bafter hb2
    have hz3 : w.heap.size < w2.heap.size := by omega
    go_wp2_with fail
    refine (ceil_no _ _ _ h ha.1 ha.2).mono ?_
    rintro e w3 ⟨rfl, hb3⟩
    clear h
    go_wp2
    go_ret
    exact ⟨rfl, ((hB1.trans (hb2.mono (by omega))).trans (hb3.mono (by omega)))⟩

theorem own : ownKnob Try.prog.godebug = none := by kernel_rfl
theorem laidOut : laidOutB Try.prog = true := by kernel_rfl
theorem cellsR : Try.prog.cellsOf 23 = 2 := by kernel_rfl

set_option maxRecDepth 100000 in
theorem lifted (os : Os) (started : os.Started) (H : Type) (enc : TypeId × Value → H) :
    ReturnsInHanded {} Try.checked os 3 .any (Rows.ratioHalvesSpec.pre6 enc Try.prog Try.f3 Rows.ratioHalvesRow.domain false) (Rows.ratioHalvesSpec.post enc Try.prog Try.f3 false true false false) := by
  refine returnsInHanded_of_change (C := Try.checked) own started (by kernel_rfl) Try.func3
    (ChangeSpec.witness6 (enc := enc) (C := Try.checked) false ⟨#[], #[.agg #[.int .i64 0, .int .i64 0]], []⟩ 8 (by kernel_rfl) (by kernel_rfl) (by kernel_rfl) (by kernel_rfl)) ?_
  intro W base args ds gs before hval0 hW hcnd _
  have hval : ∀ (j : Nat) t v, Try.f3.params[j]? = some t → args[j]? = some v → Value.okWide Try.prog W .any base t v := hval0
  have hW' := hW
  obtain ⟨p, q, hA0, hV, rfl, hfz, hnd⟩ := hW
  have hA : DataW.TrodAll enc Try.prog W 0 (fun _ => true) true Try.f3.params.toList args.toList ds p := hA0
  rw [Try.params3] at hA hval
  obtain ⟨v0, vs0, d0, ds0, p0, q0, hargs, rfl, rfl, h0, r0⟩ := trodAll_cons hA
  obtain ⟨rfl, rfl, rfl⟩ := trodAll_nil r0
  obtain rfl : args = #[v0] := by cases args; simp_all
  obtain ⟨rfl, rfl⟩ := trodVars_none hV
  obtain ⟨a0, b0, rfl, rfl, rfl, ha0, hb0⟩ := open_ii Try.underlying23 (by kernel_rfl) cellsR Try.underlying3 Try.underlying3 (hval 0 23 v0 rfl rfl) h0
  refine (walk a0 b0 ha0 W).mono fun e W' ⟨he, hB⟩ => ?_
  subst he
  exact ⟨_, rfl, post_of_law laidOut rfl Try.underlying4 rfl (by intro t ht; rw [Try.params3] at ht; simp at ht; subst ht; exact ⟨by kernel_rfl, of_decide_eq_true (by kernel_rfl)⟩) hW' rfl hB⟩

theorem holds : Rows.RatioHalvesSaid :=
  OpenClaim.holds_of_wide 3 Try.f3 rfl rfl rfl rfl rfl rfl rfl ⟨rfl, rfl, rfl, rfl, rfl⟩ rfl rfl rfl rfl rfl (by kernel_rfl) Try.func3 (by kernel_rfl)
    (of_decide_eq_true (by kernel_rfl)) (by unfold Func.isWrapper; first | (rw [if_pos (by decide +kernel)]; kernel_rfl) | (rw [if_neg (by decide +kernel)]; exact ⟨rfl, rfl⟩))
    (fun os started H enc _ => lifted os started H enc)
#print axioms holds
end Go.Proofs.Ythlhlglmkcbgaaa.RatioHalvesLaw
