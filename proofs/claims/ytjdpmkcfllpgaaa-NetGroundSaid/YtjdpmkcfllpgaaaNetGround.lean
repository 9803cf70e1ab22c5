/- For every grid: NetGround answers true (the net of ground is the same gone the other way), and the arguments read as before. No condition. -/
import Derived.Test.YtjdpmkcfllpgaaaRows
import Derived.Test.YtjdpmkcfllpgaaaOpen
import Derived.Test.YtjdpmkcfllpgaaaNetOf
import Derived.Test.YtjdpmkcfllpgaaaGroundFn
import Derived.Test.YtjdpmkcfllpgaaaDijkWalks
namespace Go.Proofs.Ytjdpmkcfllpgaaa.NetGroundLaw
open Go.ChangeShapes Go.WideShapes Go.ChangeAt Go.RowKit Go.Proofs.Ytjdpmkcfllpgaaa NetLaw GridLaw Go.Proofs.Ytjdpmkcfllpgaaa.GroundLaw Go.Proofs.Ytjdpmkcfllpgaaa.Net Go.Proofs.Ytjdpmkcfllpgaaa.NetOf Go.Proofs.Ytjdpmkcfllpgaaa.GroundFn Go.Proofs.Ytjdpmkcfllpgaaa.Std
set_option linter.unusedSimpArgs false
set_option linter.unusedVariables false

theorem pos_good {N : Int} {l : List NetLaw.E} (hg : NetLaw.Good N l) (hc : ∀ e ∈ l, 1 ≤ e.2.2) : Dijk.pos N l = 0 := by
  have h0 : Dijk.posE l = 0 := by
    clear hg
    induction l with
    | nil => rfl
    | cons e r ih =>
      have := hc e (by simp)
      rw [Dijk.posE, if_neg (by omega)]
      exact ih fun x hx => hc x (by simp [hx])
  rw [Dijk.pos, if_neg (by simpa using chk_zero.2 hg)]
  exact h0
theorem first_all : (allM 2 1 [1, 2] 2).length = 2 := by decide +kernel

set_option maxRecDepth 100000 in
set_option maxHeartbeats 4000000 in
theorem walk (w : World) (W H : Int) (A : Option Addr) (c : Nat) (l : List Int) (hW : -9223372036854775808 ≤ W ∧ W ≤ 9223372036854775807) (hH : -9223372036854775808 ≤ H ∧ H ≤ 9223372036854775807) (hA : Arg w 1 ci A c l) :
    Calls Try.prog 3 #[.agg #[.int .i64 W, .int .i64 H, .slice A l.length c]] w fun e w' => e = .returned (.bool true) ∧ Below w.heap.size w w' := by
  have hs := hA.sl
  have hll : l.length ≤ 9223372036854775807 := Nat.le_trans hA.cap hA.max
  clear hA
  have hw0 : Below w.heap.size w (w.alloc (.cells #[.int .i64 W, .int .i64 H, .slice A l.length c] 24)) := (Below.refl _ _).alloc (Nat.le_refl _) _
  have key0 : ∀ (W : World) (g : Nat), Sl W W.heap.size 1 ci (some ⟨g, 0, none⟩) [1, 2] → Calls Try.prog 15 #[.agg #[.int .i64 2, .int .i64 1, .slice (some ⟨g, 0, none⟩) 2 2]] W fun e w' => ∃ A c, e = .returned (.tuple #[.agg #[.int .i64 2, .slice A 2 c], .int .i64 0]) ∧ Below W.heap.size W w' := by
    intro W g h
    refine (of_yes 2 1 (some ⟨g, 0, none⟩) 2 [1, 2] W h (gchk_zero.1 (by decide +kernel))).mono ?_
    rintro e w' ⟨A, c, he, _, hb⟩
    have e2 : (allM 2 1 [1, 2] ([1, 2] : List Int).length).length = 2 := first_all
    rw [e2] at he
    exact ⟨A, c, he, hb⟩
  have KEY0 := Lib.hid key0
  clear key0
  by_cases hg : gchk W H l = 0
  · have hgg := gchk_zero.1 hg
    have k2 := fun W' h => of_yes W H A c l W' h hgg
    have hgood := ground_good hgg
    have hpos := pos_good hgood (ground_pos hgg)
    have hback := ground_back hgg
    have hb := size_bd hgg
    have hlen := hgg.len
    have hw1 := hgg.w1
    have hw8 := hgg.w8
    have hh1 := hgg.h1
    have hh8 := hgg.h8
    have h6 := hgood.len
    have htl := tl_len (allM W H l l.length)
    have k3 := fun A' c' W' h => turn_yes l.length A' c' (allM W H l l.length) W' h hgood
    have k4 := fun A' c' W' h => Dijk.pos_any l.length A' c' (allM W H l l.length) W' h (by omega)
    rw [hpos] at k4
    have k5 := fun gk A5 c5 A' c' W' h1 hg' hr hl' => containsG_fn gk l.length A5 c5 (tl (allM W H l l.length)) A' c' (allM W H l l.length) W' h1 hg' hr (by omega) hl' h6 hback
    unfold fng at k5
    have K2 := Lib.hid k2
    have K3 := Lib.hid k3
    have K4 := Lib.hid k4
    have K5 := Lib.hid k5
    have hmul : (l.length : Int) = W * H := hlen
    have hmb : 1 ≤ W * H ∧ W * H ≤ 64 := by omega
    generalize hm : allM W H l l.length = m at *
    have HM := Lib.hid hm
    generalize hmt : tl m = mt at *
    have HMT := Lib.hid hmt
    have HTL := Lib.hid htl
    have HMUL := Lib.hid hmul
    clear k2 k3 k4 k5 hm hmt htl hpos hback hgood hgg hg hlen
    clear hmul
    go_enter Try.func3, Try.ntmps3
    go_wp2_with fail
    refine (KEY0.out _ _ (sl_new' (by decide) _ #[.int .i64 1, .int .i64 2] _ _ (by simp) rfl)).mono ?_
    rintro e w1 ⟨A1, c1, rfl, hb1⟩
    have B1 : Below (w.heap.size + 1) (w.alloc (.cells #[.int .i64 W, .int .i64 H, .slice A l.length c] 24)) w1 := ((Below.refl _ _).alloc (by simp) _).trans (hb1.mono (by simp))
    have Z1 : w.heap.size + 1 ≤ w1.heap.size := by have := hb1.size; simp at this; omega
    have B2 := B1.alloc Z1 (.cells #[.int .i64 2, .slice A1 2 c1] 27)
    have H2 := hw0.trans (B2.mono (Nat.le_succ _))
    have z1 : w.heap.size < w1.heap.size := by omega
    clear hb1
    obtain ⟨cc1, _⟩ := keepAt B1 (Nat.lt_succ_self _)
    have q0 := cc1 0
    have q1 := cc1 1
    have q2 := cc1 2
    simp at q0 q1 q2
    clear cc1 B1
    go_wp2_with fail
    refine (K2.out _ ((hs.keep H2 (Nat.le_refl _)).more (by simp; omega))).mono ?_
    rintro e w3 ⟨A3, c3, rfl, own3, hb3⟩
    have B3 := B2.trans (hb3.mono (by simp; omega))
    have H3 := hw0.trans (B3.mono (Nat.le_succ _))
    have z3 : w.heap.size < w3.heap.size := by have := hb3.size; simp at this; omega
    have B4 := B3.alloc (by omega) (.cells #[.int .i64 l.length, .slice A3 m.length c3] 27)
    have hk : ∀ W', Below (w3.heap.size + 1) (w3.alloc (.cells #[.int .i64 l.length, .slice A3 m.length c3] 27)) W' → W'.cell? ⟨w.heap.size, 0, none⟩ = some (.int .i64 W) ∧ W'.cell? ⟨w.heap.size, 1, none⟩ = some (.int .i64 H) ∧ W'.cell? ⟨w3.heap.size, 0, none⟩ = some (.int .i64 l.length) ∧ W'.cell? ⟨w3.heap.size, 1, none⟩ = some (.slice A3 m.length c3) ∧ Sl W' W'.heap.size 3 ce A3 m ∧ Below w.heap.size w W' ∧ w3.heap.size + 1 ≤ W'.heap.size := fun W' hW' => by
      have hz : w3.heap.size + 1 ≤ W'.heap.size := by have := hW'.size; simp at this; omega
      have hX := B4.trans (hW'.mono (by omega))
      have hY := ((Below.refl w3.heap.size w3).alloc (Nat.le_refl _) (.cells #[.int .i64 l.length, .slice A3 m.length c3] 27)).trans (hW'.mono (Nat.le_succ _))
      obtain ⟨c1, _⟩ := keepAt hX (Nat.lt_succ_self _)
      obtain ⟨c2, _⟩ := keepAt hW' (Nat.lt_succ_self _)
      exact ⟨(c1 0).trans (by simp), (c1 1).trans (by simp), (c2 0).trans (by simp), (c2 1).trans (by simp), (own3.sl.2.keep hY (Nat.le_refl _)).more (by omega), hw0.trans (hX.mono (Nat.le_succ _)), hz⟩
    have HK := Lib.hid hk
    have b0 : Below (w3.heap.size + 1) (w3.alloc (.cells #[.int .i64 l.length, .slice A3 m.length c3] 27)) (w3.alloc (.cells #[.int .i64 l.length, .slice A3 m.length c3] 27)) := Below.refl _ _
    obtain ⟨_, _, _, _, sm0, _, zz0⟩ := HK.out _ b0
    clear hk q0 q1 q2 B2 H2 B3 H3 B4 own3 hb3 hs
    go_wp2_with fail
    refine (K3.out _ _ _ sm0).mono ?_
    rintro e w4 ⟨A4, c4, rfl, own4, hb4⟩
    have b4 := b0.trans (hb4.mono zz0)
    have z4 : w3.heap.size + 1 ≤ w4.heap.size := by have := hb4.size; omega
    have b5 := b4.alloc z4 (.cells #[.int .i64 l.length, .slice A4 mt.length c4] 27)
    have c0 : Below (w4.heap.size + 1) (w4.alloc (.cells #[.int .i64 l.length, .slice A4 mt.length c4] 27)) (w4.alloc (.cells #[.int .i64 l.length, .slice A4 mt.length c4] 27)) := Below.refl _ _
    have hk2 : ∀ W', Below (w4.heap.size + 1) (w4.alloc (.cells #[.int .i64 l.length, .slice A4 mt.length c4] 27)) W' → W'.cell? ⟨w4.heap.size, 1, none⟩ = some (.slice A4 mt.length c4) ∧ Sl W' W'.heap.size 3 ce A4 mt ∧ w4.heap.size + 1 ≤ W'.heap.size ∧ Below (w3.heap.size + 1) (w3.alloc (.cells #[.int .i64 l.length, .slice A3 m.length c3] 27)) W' := fun W' hW' => by
      have hz : w4.heap.size + 1 ≤ W'.heap.size := by have := hW'.size; simp at this; omega
      have hY := ((Below.refl w4.heap.size w4).alloc (Nat.le_refl _) (.cells #[.int .i64 l.length, .slice A4 mt.length c4] 27)).trans (hW'.mono (Nat.le_succ _))
      obtain ⟨c2, _⟩ := keepAt hW' (Nat.lt_succ_self _)
      exact ⟨(c2 1).trans (by simp), (own4.sl.2.keep hY (Nat.le_refl _)).more (by omega), hz, b5.trans (hW'.mono (by omega))⟩
    have HK2 := Lib.hid hk2
    obtain ⟨_, _, zz1, b6⟩ := HK2.out _ c0
    obtain ⟨q0, q1, p0, p1, sm1, _, _⟩ := HK.out _ b6
    have z43 : w3.heap.size < w4.heap.size := by omega
    have z4w : w.heap.size < w4.heap.size := by omega
    clear hk2 b4 b5 own4 hb4 b6 sm0 b0
    have Q0 := Lib.hid q0
    have SM1 := Lib.hid sm1
    clear sm1
    go_wp2_with fail
    refine (K4.out _ _ _ SM1.out).mono ?_
    rintro e w5 ⟨rfl, hb5⟩
    have c5' := c0.trans (hb5.mono zz1)
    clear q0 q1 p0 p1 Q0 SM1 hb5
    obtain ⟨y1, st5, z5, b7⟩ := HK2.out _ c5'
    obtain ⟨q0, q1, p0, p1, sm5, H5, _⟩ := HK.out _ b7
    have g2 : ((l.length : Int) != W * H) = false := by rw [bne_eq_false_iff_eq]; exact HMUL.out
    have z53 : w3.heap.size < w5.heap.size := by omega
    have z5w : w.heap.size < w5.heap.size := by omega
    have z54 : w4.heap.size < w5.heap.size := by omega
    have K5' := Lib.hid (K5.out w4.heap.size A4 c4 A3 c3 w5 y1 z54 st5 sm5)
    have H5' := Lib.hid H5
    clear st5 sm5 H5 b7 c5' c0 y1
    go_wp2_with fail
    refine K5'.out.mono ?_
    rintro e w6 ⟨rfl, hb6⟩
    have H6 := H5'.out.trans (hb6.mono (Nat.le_of_lt z5w))
    clear hb6 q0 q1 p0 p1
    go_wp2
    go_ret
    exact ⟨rfl, H6⟩
  · have k2 := fun W' h => of_no W H A c l W' h hll hg
    have hne : (gchk W H l != 0) = true := by rw [bne_iff_ne]; exact hg
    generalize gchk W H l = er at *
    have K2 := Lib.hid k2
    clear k2 hg
    go_enter Try.func3, Try.ntmps3
    go_wp2_with fail
    refine (KEY0.out _ _ (sl_new' (by decide) _ #[.int .i64 1, .int .i64 2] _ _ (by simp) rfl)).mono ?_
    rintro e w1 ⟨A1, c1, rfl, hb1⟩
    have B1 : Below (w.heap.size + 1) (w.alloc (.cells #[.int .i64 W, .int .i64 H, .slice A l.length c] 24)) w1 := ((Below.refl _ _).alloc (by simp) _).trans (hb1.mono (by simp))
    have Z1 : w.heap.size + 1 ≤ w1.heap.size := by have := hb1.size; simp at this; omega
    have B2 := B1.alloc Z1 (.cells #[.int .i64 2, .slice A1 2 c1] 27)
    have H2 := hw0.trans (B2.mono (Nat.le_succ _))
    have z1 : w.heap.size < w1.heap.size := by omega
    clear hb1
    obtain ⟨cc1, _⟩ := keepAt B1 (Nat.lt_succ_self _)
    have q0 := cc1 0
    have q1 := cc1 1
    have q2 := cc1 2
    simp at q0 q1 q2
    clear cc1 B1
    go_wp2_with fail
    refine (K2.out _ ((hs.keep H2 (Nat.le_refl _)).more (by simp; omega))).mono ?_
    rintro e w3 ⟨rfl, hb3⟩
    have H3 := H2.trans (hb3.mono (by simp; omega))
    have z3 := H3.size
    clear hb3 q0 q1 q2
    go_wp2
    go_ret
    exact ⟨rfl, H3.alloc z3 _⟩

theorem own : ownKnob Try.prog.godebug = none := by kernel_rfl
theorem laidOut : laidOutB Try.prog = true := by kernel_rfl

set_option maxRecDepth 100000 in
theorem lifted (os : Os) (started : os.Started) (H : Type) (enc : TypeId × Value → H) :
    ReturnsInHanded {} Try.checked os 3 .any (Rows.netGroundSpec.pre6 enc Try.prog Try.f3 Rows.netGroundRow.domain false) (Rows.netGroundSpec.post enc Try.prog Try.f3 false true false false) := by
  refine returnsInHanded_of_change (C := Try.checked) own started (by kernel_rfl) Try.func3
    (ChangeSpec.witness6 (enc := enc) (C := Try.checked) false ⟨#[], #[.agg #[.int .i64 0, .int .i64 0, .slice none 0 0]], []⟩ 8 (by kernel_rfl) (by kernel_rfl) (by kernel_rfl) (by kernel_rfl)) ?_
  intro W base args ds gs before hval0 hW hcnd _
  have hval : ∀ (j : Nat) t v, Try.f3.params[j]? = some t → args[j]? = some v → Value.okWide Try.prog W .any base t v := hval0
  have hW' := hW
  obtain ⟨p, q, hA0, hV, rfl, hfz, hnd⟩ := hW
  have hA : DataW.TrodAll enc Try.prog W 0 (fun _ => true) true Try.f3.params.toList args.toList ds p := hA0
  rw [Try.params3] at hA hval
  obtain ⟨v0, vs0, d0, ds0, p0, q0, hargs, rfl, rfl, h0, r0⟩ := trodAll_cons hA
  obtain ⟨rfl, rfl, rfl⟩ := trodAll_nil r0
  obtain rfl : args = #[v0] := by cases args; simp_all
  obtain ⟨rfl, rfl⟩ := trodVars_none hV
  obtain ⟨W0, H0, A0, c0, l0, dd0, rfl, hW0, hH0, hG0, hb0, rfl, hd0⟩ := open_grid Try.underlying24 (by kernel_rfl) (by kernel_rfl) Try.underlying3 Try.underlying3 Try.underlying22 Try.underlying3 (by kernel_rfl) (hval 0 24 v0 rfl rfl) h0
  refine (walk W W0 H0 A0 c0 l0 hW0 hH0 hG0).mono fun e W' ⟨he, hB⟩ => ?_
  subst he
  exact ⟨_, rfl, post_of_law laidOut rfl Try.underlying4 rfl (by intro t ht; rw [Try.params3] at ht; simp at ht; subst ht <;> exact ⟨by kernel_rfl, of_decide_eq_true (by kernel_rfl)⟩) hW' rfl hB⟩

theorem holds : Rows.NetGroundSaid :=
  OpenClaim.holds_of_wide 3 Try.f3 rfl rfl rfl rfl rfl rfl rfl ⟨rfl, rfl, rfl, rfl, rfl⟩ rfl rfl rfl rfl rfl (by kernel_rfl) Try.func3 (by kernel_rfl)
    (of_decide_eq_true (by kernel_rfl)) (by unfold Func.isWrapper; first | (rw [if_pos (by decide +kernel)]; kernel_rfl) | (rw [if_neg (by decide +kernel)]; exact ⟨rfl, rfl⟩))
    (fun os started H enc _ => lifted os started H enc)
#print axioms holds
end Go.Proofs.Ytjdpmkcfllpgaaa.NetGroundLaw
