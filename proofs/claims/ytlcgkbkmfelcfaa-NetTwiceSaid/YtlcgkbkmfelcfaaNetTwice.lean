/- For every net: NetTwice answers true (turned twice it is as it was; the numbers of all edges out of all places are all numbers), and the argument reads as before. No condition. -/
import Derived.Test.YtlcgkbkmfelcfaaRows
import Derived.Test.YtlcgkbkmfelcfaaOpen
import Derived.Test.YtlcgkbkmfelcfaaNetOut
import Derived.Test.YtlcgkbkmfelcfaaAllOut
import Derived.Test.YtlcgkbkmfelcfaaFlowLaw
import Derived.Test.YtlcgkbkmfelcfaaSortI
import Derived.Test.YtlcgkbkmfelcfaaRefs
import Derived.Test.YtlcgkbkmfelcfaaNetTurn
namespace Go.Proofs.Ytlcgkbkmfelcfaa.NetTwiceLaw
open Go.ChangeShapes Go.WideShapes Go.ChangeAt Go.RowKit Go.Proofs.Ytlcgkbkmfelcfaa NetLaw Go.Proofs.Ytlcgkbkmfelcfaa.Net Go.Proofs.Ytlcgkbkmfelcfaa.Refs Go.Proofs.Ytlcgkbkmfelcfaa.Std
set_option linter.unusedSimpArgs false
set_option linter.unusedVariables false
theorem good2 : NetLaw.Good 2 [(0, 1, 5)] := ⟨by decide, by decide, by decide, by decide, by decide⟩
theorem good_tl {n : Int} {l : List E} (h : NetLaw.Good n l) : NetLaw.Good n (tl l) := by
  refine ⟨h.lo, h.hi, by rw [tl_len]; exact h.len, fun e he => ?_, fun e he => ?_⟩
  · unfold tl at he
    obtain ⟨d, hd, rfl⟩ := List.mem_map.1 he
    have := h.ends d hd
    simp only
    omega
  · unfold tl at he
    obtain ⟨d, hd, rfl⟩ := List.mem_map.1 he
    have := h.cost d hd
    simp only
    exact this
theorem own_nil {α : Type} {w : World} {base : Nat} {e : TypeId} {sz : Nat} {cell : α → Nat → Value} {A : Option Addr} {n c : Nat} {l : List α} (h : Own w base e sz cell (.slice A n c) l) : A = none → n = 0 ∧ c = 0 := by
  obtain ⟨A', c', he, _, hn⟩ := h.form
  injection he with a b d
  rw [a, b, d]
  exact hn
theorem turn_two (W : World) (g : Nat) (h : Sl W W.heap.size 3 ce (some ⟨g, 0, none⟩) [(0, 1, 5)]) :
    Calls Try.prog 17 #[.agg #[.int .i64 2, .slice (some ⟨g, 0, none⟩) 1 1]] W fun e w' => ∃ A c, e = .returned (.tuple #[.agg #[.int .i64 2, .slice A 1 c], .int .i64 0]) ∧ Own w' W.heap.size 27 3 ce (.slice A 1 c) [(1, 0, 5)] ∧ Below W.heap.size W w' :=
  turn_yes 2 (some ⟨g, 0, none⟩) 1 [(0, 1, 5)] W h good2

set_option maxRecDepth 100000 in
set_option maxHeartbeats 4000000 in
theorem walk (w : World) (N : Int) (A : Option Addr) (c : Nat) (l : List E) (hA : Arg w 3 ce A c l) :
    Calls Try.prog 7 #[.agg #[.int .i64 N, .slice A l.length c]] w fun e w' => e = .returned (.bool true) ∧ Below w.heap.size w w' := by
  obtain ⟨i0, hi, hz0, hz1, hz2⟩ := info_parts infoIntO
  have hs := hA.sl
  have hll : l.length ≤ 9223372036854775807 := Nat.le_trans hA.cap hA.max
  clear hA
  have hw0 : Below w.heap.size w (w.alloc (.cells #[.int .i64 N, .slice A l.length c] 24)) := (Below.refl _ _).alloc (Nat.le_refl _) _
  have hkeep : ∀ W, Below (w.heap.size + 1) (w.alloc (.cells #[.int .i64 N, .slice A l.length c] 24)) W → W.cell? ⟨w.heap.size, 0, none⟩ = some (.int .i64 N) ∧ W.cell? ⟨w.heap.size, 1, none⟩ = some (.slice A l.length c) ∧ w.heap.size + 1 ≤ W.heap.size ∧ Sl W W.heap.size 3 ce A l ∧ Below w.heap.size w W := fun W hW => by
    obtain ⟨cc, _⟩ := keepAt hW (Nat.lt_succ_self _)
    have q0 := cc 0
    have q1 := cc 1
    simp at q0 q1
    have H := hw0.trans (hW.mono (Nat.le_succ _))
    have hz := hW.size
    simp at hz
    exact ⟨q0, q1, hz, (hs.keep H (Nat.le_refl _)).more H.size, H⟩
  have HK := Lib.hid hkeep
  clear hkeep
  have B0 : Below (w.heap.size + 1) (w.alloc (.cells #[.int .i64 N, .slice A l.length c] 24)) (w.alloc (.cells #[.int .i64 N, .slice A l.length c] 24)) := Below.refl _ _
  by_cases hg : NetLaw.Good N l
  · have hN2 := hg.hi
    have h600 := hg.len
    have hN1 := hg.lo
    obtain ⟨n, rfl⟩ := Int.eq_ofNat_of_zero_le (show 0 ≤ N by omega)
    have k1 := fun W h => turn_yes n A c l W h hg
    have k2 := fun W A' c' h => turn_yes n A' c' (tl l) W h (good_tl hg)
    simp only [FlowLaw.tl_tl] at k2
    have k3 := fun W A' c' h1 h2 => same_net n n A A' l.length l.length c c' l l W h1 h2 rfl rfl hll true (by simp)
    have k4 := fun v W h hv => out_yes n A c l v W h hg hv
    have hgs := gath_sort (n := n) (l := l) (fun e he => ⟨(hg.ends e he).1, (hg.ends e he).2.1⟩)
    have hga := gath_all (n := n) (l := l) (fun e he => ⟨(hg.ends e he).1, (hg.ends e he).2.1⟩)
    rw [tl_len] at k2
    unfold SomeTurn at k1 k2
    rw [tl_len] at k1
    have K1 := Lib.hid k1
    have K2 := Lib.hid k2
    have K3 := Lib.hid k3
    have K4 := Lib.hid k4
    have HGS := Lib.hid hgs
    have HGA := Lib.hid hga
    have HGL := Lib.hid (gath_len l)
    clear k1 k2 k3 k4 hgs hga hg hs hw0
    go_enter Try.func7, Try.ntmps7
    go_wp2_with fail
    refine (turn_two _ _ (sl_new' (cell := ce) (by decide) (w.alloc (.cells #[.int .i64 n, .slice A l.length c] 24)) #[.int .i64 0, .int .i64 1, .int .i64 5] _ _ (by simp) rfl)).mono ?_
    rintro e w1 ⟨A1, c1, rfl, own1, hb1⟩
    have B1 := (B0.alloc (by simp) (.cells #[.int .i64 0, .int .i64 1, .int .i64 5] 27)).trans (hb1.mono (by simp))
    have Z1 : w.heap.size + 1 ≤ w1.heap.size := by have := hb1.size; simp at this; omega
    clear hb1
    go_wp2_with fail
    refine (same_net 2 2 A1 _ 1 1 c1 1 [(1, 0, 5)] [(1, 0, 5)] _ ((own1.alloc _).alloc _).sl.2 (sl_new' (cell := ce) (by decide) (w1.alloc (.cells #[.int .i64 2, .slice A1 1 c1] 24)) #[.int .i64 1, .int .i64 0, .int .i64 5] _ _ (by simp) rfl) rfl rfl (by decide) true (by decide)).mono ?_
    rintro e w2 ⟨rfl, hb2⟩
    have B2 := ((B1.alloc Z1 (.cells #[.int .i64 2, .slice A1 1 c1] 24)).alloc (by simp; omega) (.cells #[.int .i64 1, .int .i64 0, .int .i64 5] 27)).trans (hb2.mono (by simp; omega))
    clear hb2 own1 B1 Z1
    obtain ⟨q0, q1, Z2, sg, H2⟩ := HK.out _ B2
    have z2 : w.heap.size < w2.heap.size := by omega
    clear H2 B0
    go_wp2_with fail
    refine (K1.out _ sg).mono ?_
    rintro e w3 ⟨A3, c3, rfl, own3, hb3⟩
    have B3 := B2.trans (hb3.mono Z2)
    clear hb3 q0 q1 sg
    have B3' := B3.alloc (by have := B3.size; simp at this; omega) (.cells #[.int .i64 n, .slice A3 l.length c3] 24)
    obtain ⟨q0, q1, Z3, sg, H3⟩ := HK.out _ B3'
    have z3 : w.heap.size < w3.heap.size := by have := B3.size; simp at this; omega
    clear H3 sg B2 Z2 z2
    go_wp2_with fail
    refine (K2.out _ _ _ (own3.alloc _).sl.2).mono ?_
    rintro e w4 ⟨A4, c4, rfl, own4, hb4⟩
    have Z3' : w.heap.size + 1 ≤ (w3.alloc (.cells #[.int .i64 n, .slice A3 l.length c3] 24)).heap.size := by simp; omega
    have B4 := B3'.trans (hb4.mono Z3')
    have hB4 := hb4.size
    have B4' := B4.alloc (by omega) (.cells #[.int .i64 n, .slice A4 l.length c4] 24)
    clear q0 q1 Z3 own3 B3 B3' hb4
    obtain ⟨q0, q1, Z4, sg, H4⟩ := HK.out _ B4'
    have z4 : w.heap.size < w4.heap.size := by simp at hB4; omega
    clear H4 hB4 Z3' z3
    go_wp2_with fail
    refine (K3.out _ _ _ sg (own4.alloc _).sl.2).mono ?_
    rintro e w5 ⟨rfl, hb5⟩
    have B5 := B4'.trans (hb5.mono Z4)
    clear q0 q1 Z4 sg own4 B4 B4' hb5 z4
    obtain ⟨q0, q1, Z5, sg, H5⟩ := HK.out _ B5
    have z5 : w.heap.size < w5.heap.size := by omega
    go_wp2
    go_loopw [8, 63] (fun s8 i wr => ∃ (v : Nat) (A' : Option Addr) (m c' : Nat), v ≤ n ∧ i = .int .i64 v ∧ s8 = .slice A' m c' ∧ (gath l v).length = m ∧ Own wr w5.heap.size 3 1 ci (.slice A' m c') (gath l v) ∧ Below w5.heap.size w5 wr) (fun _ i _ => n - (intOf i).toNat)
    case atStart => exact ⟨0, none, 0, 0, Nat.zero_le _, rfl, rfl, rfl, Own.nil_, Below.refl _ _⟩
    case round =>
      obtain ⟨v, A', m, c', hv, rfl, rfl, hm, own6, B6⟩ := hrel
      have B6' := B5.trans (B6.mono Z5)
      clear q0 q1 sg
      obtain ⟨q0, q1, Z6, sg, H6⟩ := HK.out _ B6'
      have z6 : w.heap.size < wr.heap.size := by omega
      have HM := Lib.hid hm
      have hm6 : m ≤ 64 * 600 := by
        have h1 := HGL.out v
        rw [hm] at h1
        exact Nat.le_trans h1 (Nat.mul_le_mul (by omega) h600)
      have Z56 := B6.size
      clear hm H5
      by_cases hlt : v < n
      · have hd : (v : Int) < n := by omega
        go_wp2_with fail
        refine (K4.out v _ sg hlt).mono ?_
        rintro e w7 ⟨A7, c7, rfl, own7, hb7⟩
        have H7 := B6.trans (hb7.mono Z56)
        have hown := own6.keep hb7
        obtain ⟨_, sl7⟩ := own7.sl
        have hn7 := own_nil own7
        have hst : gath l (v + 1) = gath l v ++ ol l l.length v := rfl
        have hl7 := ol_len l l.length v
        generalize ol l l.length v = lo at *
        obtain ⟨m7, hm7⟩ : ∃ m, lo.length = m := ⟨_, rfl⟩
        rw [hm7] at hn7 hl7
        rw [hm7]
        have HST := Lib.hid hst
        have HM7 := Lib.hid hm7
        have hN7 := Lib.hid hn7
        have hZ7 := hb7.size
        have HH7 := Lib.hid H7
        have S7 := Lib.hid sl7
        have O7 := Lib.hid hown
        clear q0 q1 sg hst hm7 hn7 H7 sl7 hown own6 own7 hb7 B6 B6' H6
        go_wp2_with (at_builtin; refine wpList_pushAll _ rfl (.tmp 74) (.tmp 75) _ rfl w5.heap.size 3 i0 _ 1 8 ci Try.underlying25 hi hz0 hz1 hz2 rfl (by decide) _ (gath l v) m HM.out rfl O7.out w7.heap.size A7 m7 c7 lo HM7.out rfl hN7.out S7.out one_ci (by omega) (by omega) (by omega) ?_; intro A8 c8 w8 hown8 hgrow8 hat8; rw [← HST.out] at hown8)
        have B8 : Below w5.heap.size w5 w8 := HH7.out.grown hgrow8 (by omega) O7.out.lo
        clear hgrow8 hat8
        go_roundw
        case rel => exact ⟨v + 1, A8, m + m7, c8, by omega, by go_num, rfl, by rw [HST.out, List.length_append, HM.out, HM7.out], hown8, B8⟩
        case measure => simp [intOf]; omega
      · obtain rfl : v = n := by omega
        obtain rfl : m = l.length := HM.out.symm.trans HGA.out
        go_wp2_with fail
        refine (sort_int A' l.length c' w5.heap.size (gath l v) wr HM.out own6 (by omega) Z56).mono ?_
        rintro e w7 ⟨rfl, sl7, hb7⟩
        rw [HGS.out] at sl7
        have H7 := B6.trans hb7
        have B7 := B5.trans (H7.mono Z5)
        clear q0 q1 sg own6 B6 B6' hb7 H6 hm6 Z56 H7 z6 Z6
        obtain ⟨q0, q1, Z7, _, H7⟩ := HK.out _ B7
        have z7 : w.heap.size < w7.heap.size := by omega
        have S7 := Lib.hid sl7
        clear sl7 B5 B7
        go_wp2
        go_loopw [82] (fun i wz => ∃ k : Nat, k ≤ l.length ∧ i = .int .i64 k ∧ wz = w7) (fun i _ => l.length - (intOf i).toNat)
        case atStart => exact ⟨0, Nat.zero_le _, rfl, rfl⟩
        case round =>
          obtain ⟨k, hk, rfl, rfl⟩ := hrel
          by_cases hlt : k < l.length
          · obtain ⟨b, off, rfl, hbb, hc⟩ := S7.out.atI (k := k) (by rw [nums_len]; exact hlt)
            rw [nums_get] at hc
            go_wp2
            go_roundw
            case rel => exact ⟨k + 1, by omega, by go_num, by trivial⟩
            case measure => simp [intOf]; omega
          · obtain rfl : k = l.length := by omega
            go_wp2
            go_ret
            exact ⟨by first | rfl | simp, H7⟩
  · have k1 := fun W h => turn_no N A c l W h hll hg
    have k2 := fun W h => check_any N A c l W h hll
    have hne : (chk N l != 0) = true := by rw [bne_iff_ne]; exact fun h => hg (chk_zero.1 h)
    generalize chk N l = er at *
    have K1 := Lib.hid k1
    have K2 := Lib.hid k2
    clear k1 k2 hg hs hw0
    go_enter Try.func7, Try.ntmps7
    go_wp2_with fail
    refine (turn_two _ _ (sl_new' (cell := ce) (by decide) (w.alloc (.cells #[.int .i64 N, .slice A l.length c] 24)) #[.int .i64 0, .int .i64 1, .int .i64 5] _ _ (by simp) rfl)).mono ?_
    rintro e w1 ⟨A1, c1, rfl, own1, hb1⟩
    have B1 := (B0.alloc (by simp) (.cells #[.int .i64 0, .int .i64 1, .int .i64 5] 27)).trans (hb1.mono (by simp))
    have Z1 : w.heap.size + 1 ≤ w1.heap.size := by have := hb1.size; simp at this; omega
    clear hb1
    go_wp2_with fail
    refine (same_net 2 2 A1 _ 1 1 c1 1 [(1, 0, 5)] [(1, 0, 5)] _ ((own1.alloc _).alloc _).sl.2 (sl_new' (cell := ce) (by decide) (w1.alloc (.cells #[.int .i64 2, .slice A1 1 c1] 24)) #[.int .i64 1, .int .i64 0, .int .i64 5] _ _ (by simp) rfl) rfl rfl (by decide) true (by decide)).mono ?_
    rintro e w2 ⟨rfl, hb2⟩
    have B2 := ((B1.alloc Z1 (.cells #[.int .i64 2, .slice A1 1 c1] 24)).alloc (by simp; omega) (.cells #[.int .i64 1, .int .i64 0, .int .i64 5] 27)).trans (hb2.mono (by simp; omega))
    clear hb2 own1 B1 Z1
    obtain ⟨q0, q1, Z2, sg, H2⟩ := HK.out _ B2
    have z2 : w.heap.size < w2.heap.size := by omega
    clear H2 B0
    go_wp2_with fail
    refine (K1.out _ sg).mono ?_
    rintro e w3 ⟨rfl, hb3⟩
    have B3 := B2.trans (hb3.mono Z2)
    have Z3' := B3.size
    simp at Z3'
    clear hb3 q0 q1 sg
    have B3' := B3.alloc (by omega) (.cells #[.int .i64 0, .slice none 0 0] 24)
    obtain ⟨q0, q1, Z3, sg, H3⟩ := HK.out _ B3'
    have z3 : w.heap.size < w3.heap.size := by omega
    have P3 : Below (w3.heap.size + 1) (w3.alloc (.cells #[.int .i64 0, .slice none 0 0] 24)) (w3.alloc (.cells #[.int .i64 0, .slice none 0 0] 24)) := Below.refl _ _
    clear H3 B2 Z2 z2
    go_wp2_with fail
    refine (K2.out _ sg).mono ?_
    rintro e w4 ⟨rfl, hb4⟩
    have B4 := B3'.trans (hb4.mono Z3)
    have P4 := P3.trans (hb4.mono (by simp))
    obtain ⟨cc, _⟩ := keepAt P4 (Nat.lt_succ_self _)
    have p1 := cc 1
    simp at p1
    have z4 : w3.heap.size < w4.heap.size := by have := hb4.size; simp at this; omega
    obtain ⟨_, _, _, _, H4⟩ := HK.out _ B4
    have d1 : (er == er) = true := by simp
    clear q0 q1 Z3 sg cc P3 P4 B3 B3' B4 hb4
    go_wp2
    go_ret
    exact ⟨by first | rfl | simp, H4⟩

theorem own : ownKnob Try.prog.godebug = none := by kernel_rfl
theorem laidOut : laidOutB Try.prog = true := by kernel_rfl

set_option maxRecDepth 100000 in
theorem lifted (os : Os) (started : os.Started) (H : Type) (enc : TypeId × Value → H) :
    ReturnsInHanded {} Try.checked os 7 .any (Rows.netTwiceSpec.pre6 enc Try.prog Try.f7 Rows.netTwiceRow.domain false) (Rows.netTwiceSpec.post enc Try.prog Try.f7 false true false false) := by
  refine returnsInHanded_of_change (C := Try.checked) own started (by kernel_rfl) Try.func7
    (ChangeSpec.witness6 (enc := enc) (C := Try.checked) false ⟨#[], #[.agg #[.int .i64 0, .slice none 0 0]], []⟩ 8 (by kernel_rfl) (by kernel_rfl) (by kernel_rfl) (by kernel_rfl)) ?_
  intro W base args ds gs before hval0 hW hcnd _
  have hval : ∀ (j : Nat) t v, Try.f7.params[j]? = some t → args[j]? = some v → Value.okWide Try.prog W .any base t v := hval0
  have hW' := hW
  obtain ⟨p, q, hA0, hV, rfl, hfz, hnd⟩ := hW
  have hA : DataW.TrodAll enc Try.prog W 0 (fun _ => true) true Try.f7.params.toList args.toList ds p := hA0
  rw [Try.params7] at hA hval
  obtain ⟨v0, vs0, d0, ds0, p0, q0, hargs, rfl, rfl, h0, r0⟩ := trodAll_cons hA
  obtain ⟨rfl, rfl, rfl⟩ := trodAll_nil r0
  obtain rfl : args = #[v0] := by cases args; simp_all
  obtain ⟨rfl, rfl⟩ := trodVars_none hV
  obtain ⟨N0, A0, c0, l0, dd0, rfl, hN0, hG0, hb0, rfl, hd0⟩ := open_net Try.underlying24 (by kernel_rfl) (by kernel_rfl) Try.underlying3 Try.underlying22 Try.underlying27 (by kernel_rfl) (by kernel_rfl) Try.underlying3 Try.underlying3 Try.underlying3 (hval 0 24 v0 rfl rfl) h0
  refine (walk W N0 A0 c0 l0 hG0).mono fun e W' ⟨he, hB⟩ => ?_
  subst he
  exact ⟨_, rfl, post_of_law laidOut rfl Try.underlying4 rfl (by intro t ht; rw [Try.params7] at ht; simp at ht; subst ht <;> exact ⟨by kernel_rfl, of_decide_eq_true (by kernel_rfl)⟩) hW' rfl hB⟩

theorem holds : Rows.NetTwiceSaid :=
  OpenClaim.holds_of_wide 7 Try.f7 rfl rfl rfl rfl rfl rfl rfl ⟨rfl, rfl, rfl, rfl, rfl⟩ rfl rfl rfl rfl rfl (by kernel_rfl) Try.func7 (by kernel_rfl)
    (of_decide_eq_true (by kernel_rfl)) (by unfold Func.isWrapper; first | (rw [if_pos (by decide +kernel)]; kernel_rfl) | (rw [if_neg (by decide +kernel)]; exact ⟨rfl, rfl⟩))
    (fun os started H enc _ => lifted os started H enc)
#print axioms holds
end Go.Proofs.Ytlcgkbkmfelcfaa.NetTwiceLaw
