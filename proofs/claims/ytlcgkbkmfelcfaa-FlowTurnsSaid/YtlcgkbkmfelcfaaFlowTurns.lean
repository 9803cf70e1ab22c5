/- For every net and two places: FlowTurns answers true (through the net turned round as much goes through), and the arguments read as before. No condition. -/
import Derived.Test.YtlcgkbkmfelcfaaRows
import Derived.Test.YtlcgkbkmfelcfaaOpen
import Derived.Test.YtlcgkbkmfelcfaaFlowUse
import Derived.Test.YtlcgkbkmfelcfaaRefs
import Derived.Test.YtlcgkbkmfelcfaaNetTurn
namespace Go.Proofs.Ytlcgkbkmfelcfaa.FlowTurnsLaw
open Go.ChangeShapes Go.WideShapes Go.ChangeAt Go.RowKit Go.Proofs.Ytlcgkbkmfelcfaa NetLaw FlowLaw Go.Proofs.Ytlcgkbkmfelcfaa.Net Go.Proofs.Ytlcgkbkmfelcfaa.Flow Go.Proofs.Ytlcgkbkmfelcfaa.Refs Go.Proofs.Ytlcgkbkmfelcfaa.Std
set_option linter.unusedSimpArgs false
set_option linter.unusedVariables false

set_option maxRecDepth 100000 in
set_option maxHeartbeats 4000000 in
theorem walk (w : World) (N : Int) (A : Option Addr) (c : Nat) (l : List E) (hA : Arg w 3 ce A c l) (a : Int) (ha : -9223372036854775808 ≤ a ∧ a ≤ 9223372036854775807) (b : Int) (hb : -9223372036854775808 ≤ b ∧ b ≤ 9223372036854775807) :
    Calls Try.prog 12 #[.agg #[.int .i64 N, .slice A l.length c], .int .i64 a, .int .i64 b] w fun e w' => e = .returned (.bool true) ∧ Below w.heap.size w w' := by
  have hs := hA.sl
  have hll : l.length ≤ 9223372036854775807 := Nat.le_trans hA.cap hA.max
  clear hA ha hb
  have hw0 : Below w.heap.size w (w.alloc (.cells #[.int .i64 N, .slice A l.length c] 24)) := (Below.refl _ _).alloc (Nat.le_refl _) _
  have key0 := fun W g h => max_two W g h
  have key1 := fun W A A' c c' B B' h h' => equal_int' A A' 1 1 c c' [5] [5] B B' W h h' rfl rfl (by decide) true (by decide)
  have KEY0 := Lib.hid key0
  have KEY1 := Lib.hid key1
  clear key0 key1
  by_cases hg : NetLaw.Good N l
  · have hN1 := hg.lo
    have hN2 := hg.hi
    obtain ⟨n, rfl⟩ := Int.eq_ofNat_of_zero_le (show 0 ≤ N by omega)
    have k2 := fun W h => turn_yes n A c l W h hg
    have k5 := fun W h => max_some n a b A c l W h hll
    have k6 := fun W A' c' h => max_some n b a A' c' (tl l) W h (by rw [tl_len]; exact hll)
    have hlaw := fun v er v' er' (h : MaxFact n a b l v er) (h' : MaxFact n b a (tl l) v' er') => max_turn hg h h'
    have hln := tl_len l
    have K2 := Lib.hid k2
    have K5 := Lib.hid k5
    have K6 := Lib.hid k6
    have LAW := Lib.hid hlaw
    clear k2 k5 k6 hg hlaw
    generalize tl l = lt at *
    have HLN := Lib.hid hln
    clear hln
    go_enter Try.func12, Try.ntmps12
    go_wp2_with fail
    refine (two_any _).mono ?_
    rintro e w1 ⟨g, rfl, own1, hb1⟩
    have B1 : Below (w.heap.size + 1) (w.alloc (.cells #[.int .i64 n, .slice A l.length c] 24)) w1 := hb1.mono (by simp)
    have Z1 : w.heap.size + 1 ≤ w1.heap.size := by have := hb1.size; simp at this; omega
    clear hb1
    go_wp2_with fail
    refine (KEY0.out _ _ own1.sl.2).mono ?_
    rintro e w2 ⟨S2, rfl, own2, hb2⟩
    have B2 := B1.trans (hb2.mono Z1)
    have Z2 : w.heap.size + 1 ≤ w2.heap.size := by have := hb2.size; omega
    clear hb2 own1 B1 Z1
    go_wp2_with fail
    refine (KEY1.out _ _ _ _ _ _ _ (own2.alloc _).sl.2 (sl_new' (by decide) w2 #[.int .i64 5] _ _ rfl rfl)).mono ?_
    rintro e w3 ⟨rfl, n3, rfl⟩
    have B3 := below_drewN (B2.alloc Z2 (.cells #[.int .i64 5] 3)) n3
    have Z3 : w.heap.size + 1 ≤ (w2.alloc (.cells #[.int .i64 5] 3)).heap.size := by simp; omega
    generalize (w2.alloc (.cells #[.int .i64 5] 3)) = w3 at B3 Z3 ⊢
    clear own2 B2 Z2
    have z3 : w.heap.size < w3.heap.size := by omega
    have H3 := hw0.trans (B3.mono (Nat.le_succ _))
    obtain ⟨cc3, _⟩ := keepAt B3 (Nat.lt_succ_self _)
    have q0 := cc3 0
    have q1 := cc3 1
    simp at q0 q1
    clear cc3
    go_wp2_with fail
    refine (K2.out _ ((hs.keep H3 (Nat.le_refl _)).more (by simp; omega))).mono ?_
    rintro e w4 ⟨A5, c5, rfl, own4, hb4⟩
    have B4 := B3.trans (hb4.mono Z3)
    have Z4 : w.heap.size + 1 ≤ w4.heap.size := by have := hb4.size; simp at this; omega
    have B5 : Below (w4.heap.size + 1) (w4.alloc (.cells #[.int .i64 n, .slice A5 lt.length c5] 24)) (w4.alloc (.cells #[.int .i64 n, .slice A5 lt.length c5] 24)) := Below.refl _ _
    have hkeep : ∀ wx, Below (w4.heap.size + 1) (w4.alloc (.cells #[.int .i64 n, .slice A5 lt.length c5] 24)) wx → wx.cell? ⟨w.heap.size, 0, none⟩ = some (.int .i64 n) ∧ wx.cell? ⟨w.heap.size, 1, none⟩ = some (.slice A l.length c) ∧ wx.cell? ⟨w4.heap.size, 0, none⟩ = some (.int .i64 n) ∧ wx.cell? ⟨w4.heap.size, 1, none⟩ = some (.slice A5 lt.length c5) ∧ w4.heap.size + 1 ≤ wx.heap.size ∧ Sl wx wx.heap.size 3 ce A l ∧ Sl wx wx.heap.size 3 ce A5 lt ∧ Below w.heap.size w wx := fun wx hx => by
      have hX := (B4.alloc Z4 (.cells #[.int .i64 n, .slice A5 lt.length c5] 24)).trans (hx.mono (by omega))
      have hX0 := hw0.trans (hX.mono (Nat.le_succ _))
      have hY := ((Below.refl w4.heap.size w4).alloc (Nat.le_refl _) (.cells #[.int .i64 n, .slice A5 lt.length c5] 24)).trans (hx.mono (by omega))
      have hzx : w4.heap.size + 1 ≤ wx.heap.size := by have := hx.size; simp at this; omega
      obtain ⟨c1, _⟩ := keepAt hX (Nat.lt_succ_self _)
      obtain ⟨c2, _⟩ := keepAt hx (Nat.lt_succ_self _)
      refine ⟨(c1 0).trans (by simp), (c1 1).trans (by simp), (c2 0).trans (by simp), (c2 1).trans (by simp), hzx, (hs.keep hX0 (Nat.le_refl _)).more (by omega), (own4.sl.2.keep hY (Nat.le_refl _)).more (by omega), hX0⟩
    have HK := Lib.hid hkeep
    clear hkeep own4 hb4 B3 H3 z3 Z3 q0 q1 B4 hs hw0
    obtain ⟨q0, q1, p0, p1, z5, sg, sh, H5⟩ := HK.out _ B5
    have zw5 : w.heap.size < w4.heap.size := by omega
    clear H5 sh
    go_wp2_with fail
    refine (K5.out _ sg).mono ?_
    rintro e w6 ⟨v1, A6, n6, c6, er1, rfl, hb6, F6⟩
    have B6 := B5.trans (hb6.mono z5)
    clear q0 q1 p0 p1 z5 sg hb6 B5
    obtain ⟨q0, q1, p0, p1, z6, sg, sh, H6⟩ := HK.out _ B6
    have zw6 : w.heap.size < w6.heap.size := by omega
    have z46 : w4.heap.size < w6.heap.size := by omega
    clear H6 sg
    go_wp2_with fail
    refine (K6.out _ _ _ sh).mono ?_
    rintro e w7 ⟨v2, A7, n7, c7, er2, rfl, hb7, F7⟩
    obtain ⟨hve, hee⟩ := LAW.out _ _ _ _ F6.out F7.out
    subst hve hee
    have B7 := B6.trans (hb7.mono z6)
    obtain ⟨_, _, _, _, _, _, _, H7⟩ := HK.out _ B7
    have d1 : (er2 == er2) = true := by simp
    have d2 : (v2 == v2) = true := by simp
    clear q0 q1 p0 p1 z6 sh hb7 B6 B7 F6 F7
    go_wp2
    go_ret
    exact ⟨by first | rfl | simp, H7⟩
  · have k2 := fun W h => turn_no N A c l W h hll hg
    have k5 := fun W h => max_some N a b A c l W h hll
    have hne : (chk N l != 0) = true := by rw [bne_iff_ne]; exact fun h => hg (chk_zero.1 h)
    have hlaw := fun v er (h : MaxFact N a b l v er) => max_chk (fun h => hg (chk_zero.1 h)) h
    generalize chk N l = er at *
    have K2 := Lib.hid k2
    have K5 := Lib.hid k5
    have LAW := Lib.hid hlaw
    clear k2 k5 hg hlaw
    go_enter Try.func12, Try.ntmps12
    go_wp2_with fail
    refine (two_any _).mono ?_
    rintro e w1 ⟨g, rfl, own1, hb1⟩
    have B1 : Below (w.heap.size + 1) (w.alloc (.cells #[.int .i64 N, .slice A l.length c] 24)) w1 := hb1.mono (by simp)
    have Z1 : w.heap.size + 1 ≤ w1.heap.size := by have := hb1.size; simp at this; omega
    clear hb1
    go_wp2_with fail
    refine (KEY0.out _ _ own1.sl.2).mono ?_
    rintro e w2 ⟨S2, rfl, own2, hb2⟩
    have B2 := B1.trans (hb2.mono Z1)
    have Z2 : w.heap.size + 1 ≤ w2.heap.size := by have := hb2.size; omega
    clear hb2 own1 B1 Z1
    go_wp2_with fail
    refine (KEY1.out _ _ _ _ _ _ _ (own2.alloc _).sl.2 (sl_new' (by decide) w2 #[.int .i64 5] _ _ rfl rfl)).mono ?_
    rintro e w3 ⟨rfl, n3, rfl⟩
    have B3 := below_drewN (B2.alloc Z2 (.cells #[.int .i64 5] 3)) n3
    have Z3 : w.heap.size + 1 ≤ (w2.alloc (.cells #[.int .i64 5] 3)).heap.size := by simp; omega
    generalize (w2.alloc (.cells #[.int .i64 5] 3)) = w3 at B3 Z3 ⊢
    clear own2 B2 Z2
    have z3 : w.heap.size < w3.heap.size := by omega
    have H3 := hw0.trans (B3.mono (Nat.le_succ _))
    obtain ⟨cc3, _⟩ := keepAt B3 (Nat.lt_succ_self _)
    have q0 := cc3 0
    have q1 := cc3 1
    simp at q0 q1
    clear cc3
    go_wp2_with fail
    refine (K2.out _ ((hs.keep H3 (Nat.le_refl _)).more (by simp; omega))).mono ?_
    rintro e w4 ⟨rfl, hb4⟩
    have B4 := B3.trans (hb4.mono Z3)
    have Z4 : w.heap.size + 1 ≤ w4.heap.size := by have := hb4.size; simp at this; omega
    have B5 := B4.alloc Z4 (.cells #[.int .i64 0, .slice none 0 0] 24)
    have H5 := hw0.trans (B5.mono (Nat.le_succ _))
    clear q0 q1 hb4 B3 H3 z3 Z3
    obtain ⟨cc5, _⟩ := keepAt B5 (Nat.lt_succ_self _)
    have q0 := cc5 0
    have q1 := cc5 1
    simp at q0 q1
    have zw4 : w.heap.size < w4.heap.size := by omega
    clear cc5
    go_wp2_with fail
    refine (K5.out _ ((hs.keep H5 (Nat.le_refl _)).more (by simp; omega))).mono ?_
    rintro e w6 ⟨v1, A6, n6, c6, er1, rfl, hb6, F6⟩
    obtain ⟨hv0, he0⟩ := LAW.out _ _ F6.out
    subst hv0 he0
    have H6 := H5.trans (hb6.mono (by simp; omega))
    have d1 : (er1 == er1) = true := by simp
    clear q0 q1 hb6 F6 H5 B5
    go_wp2
    go_ret
    exact ⟨by first | rfl | simp, H6⟩

theorem own : ownKnob Try.prog.godebug = none := by kernel_rfl
theorem laidOut : laidOutB Try.prog = true := by kernel_rfl

set_option maxRecDepth 100000 in
theorem lifted (os : Os) (started : os.Started) (H : Type) (enc : TypeId × Value → H) :
    ReturnsInHanded {} Try.checked os 12 .any (Rows.flowTurnsSpec.pre6 enc Try.prog Try.f12 Rows.flowTurnsRow.domain false) (Rows.flowTurnsSpec.post enc Try.prog Try.f12 false true false false) := by
  refine returnsInHanded_of_change (C := Try.checked) own started (by kernel_rfl) Try.func12
    (ChangeSpec.witness6 (enc := enc) (C := Try.checked) false ⟨#[], #[.agg #[.int .i64 0, .slice none 0 0], .int .i64 0, .int .i64 0], []⟩ 8 (by kernel_rfl) (by kernel_rfl) (by kernel_rfl) (by kernel_rfl)) ?_
  intro W base args ds gs before hval0 hW hcnd _
  have hval : ∀ (j : Nat) t v, Try.f12.params[j]? = some t → args[j]? = some v → Value.okWide Try.prog W .any base t v := hval0
  have hW' := hW
  obtain ⟨p, q, hA0, hV, rfl, hfz, hnd⟩ := hW
  have hA : DataW.TrodAll enc Try.prog W 0 (fun _ => true) true Try.f12.params.toList args.toList ds p := hA0
  rw [Try.params12] at hA hval
  obtain ⟨v0, vs0, d0, ds0, p0, q0, hargs, rfl, rfl, h0, r0⟩ := trodAll_cons hA
  obtain ⟨v1, vs1, d1, ds1, p1, q1, rfl, rfl, rfl, h1, r1⟩ := trodAll_cons r0
  obtain ⟨v2, vs2, d2, ds2, p2, q2, rfl, rfl, rfl, h2, r2⟩ := trodAll_cons r1
  obtain ⟨rfl, rfl, rfl⟩ := trodAll_nil r2
  obtain rfl : args = #[v0, v1, v2] := by cases args; simp_all
  obtain ⟨rfl, rfl⟩ := trodVars_none hV
  obtain ⟨N0, A0, c0, l0, dd0, rfl, hN0, hG0, hb0, rfl, hd0⟩ := open_net Try.underlying24 (by kernel_rfl) (by kernel_rfl) Try.underlying3 Try.underlying22 Try.underlying27 (by kernel_rfl) (by kernel_rfl) Try.underlying3 Try.underlying3 Try.underlying3 (hval 0 24 v0 rfl rfl) h0
  obtain ⟨a1, rfl, rfl, rfl, wa1⟩ := open_int Try.underlying3 (hval 1 3 v1 rfl rfl) h1
  obtain ⟨a2, rfl, rfl, rfl, wa2⟩ := open_int Try.underlying3 (hval 2 3 v2 rfl rfl) h2
  refine (walk W N0 A0 c0 l0 hG0 a1 (wf_bd wa1) a2 (wf_bd wa2)).mono fun e W' ⟨he, hB⟩ => ?_
  subst he
  exact ⟨_, rfl, post_of_law laidOut rfl Try.underlying4 rfl (by intro t ht; rw [Try.params12] at ht; simp at ht; rcases ht with rfl | rfl | rfl <;> exact ⟨by kernel_rfl, of_decide_eq_true (by kernel_rfl)⟩) hW' rfl hB⟩

theorem holds : Rows.FlowTurnsSaid :=
  OpenClaim.holds_of_wide 12 Try.f12 rfl rfl rfl rfl rfl rfl rfl ⟨rfl, rfl, rfl, rfl, rfl⟩ rfl rfl rfl rfl rfl (by kernel_rfl) Try.func12 (by kernel_rfl)
    (of_decide_eq_true (by kernel_rfl)) (by unfold Func.isWrapper; first | (rw [if_pos (by decide +kernel)]; kernel_rfl) | (rw [if_neg (by decide +kernel)]; exact ⟨rfl, rfl⟩))
    (fun os started H enc _ => lifted os started H enc)
#print axioms holds
end Go.Proofs.Ytlcgkbkmfelcfaa.FlowTurnsLaw
