/- For every net and three numbers: FloydBetween answers true (from a place to another it never costs more than over a third, and nothing from a place to itself), and the arguments read as before. No condition. -/
import Derived.Test.YtdgglgiafmndnaaRows
import Derived.Test.YtdgglgiafmndnaaOpen
import Derived.Test.YtdgglgiafmndnaaFloydAllFn
import Derived.Test.YtdgglgiafmndnaaWithin
import Derived.Test.YtdgglgiafmndnaaRefs
namespace Go.Proofs.Ytdgglgiafmndnaa.FloydBetweenLaw
open Go.ChangeShapes Go.WideShapes Go.ChangeAt Go.RowKit Go.Proofs.Ytdgglgiafmndnaa NetLaw BellLaw FloydLaw Go.Proofs.Ytdgglgiafmndnaa.Net Go.Proofs.Ytdgglgiafmndnaa.Mat Go.Proofs.Ytdgglgiafmndnaa.RowsInt Go.Proofs.Ytdgglgiafmndnaa.FloydAll Go.Proofs.Ytdgglgiafmndnaa.Within Go.Proofs.Ytdgglgiafmndnaa.Refs Go.Proofs.Ytdgglgiafmndnaa.Std
set_option linter.unusedSimpArgs false
set_option linter.unusedVariables false

theorem aerr_zero {N : Int} {l : List E} (h : aerr N l = 0) : NetLaw.Good N l ∧ neg N.toNat (all N.toNat l) = false := by
  unfold aerr at h
  by_cases h1 : chk N l = 0
  · rw [if_neg (by simpa using h1)] at h
    cases h2 : neg N.toNat (all N.toNat l) with
    | false => exact ⟨chk_zero.1 h1, rfl⟩
    | true => rw [if_pos h2] at h; exact absurd h (by decide)
  · rw [if_pos h1] at h; exact absurd h h1

set_option maxRecDepth 100000 in
set_option maxHeartbeats 4000000 in
theorem walk (w : World) (N : Int) (A : Option Addr) (c : Nat) (l : List E) (hA : Arg w 3 ce A c l) (i : Int) (hi : -9223372036854775808 ≤ i ∧ i ≤ 9223372036854775807) (j : Int) (hj : -9223372036854775808 ≤ j ∧ j ≤ 9223372036854775807) (k : Int) (hk : -9223372036854775808 ≤ k ∧ k ≤ 9223372036854775807) :
    Calls Try.prog 3 #[.agg #[.int .i64 N, .slice A l.length c], .int .i64 i, .int .i64 j, .int .i64 k] w fun e w' => e = .returned (.bool true) ∧ Below w.heap.size w w' := by
  have hs := hA.sl
  have hll : l.length ≤ 9223372036854775807 := Nat.le_trans hA.cap hA.max
  clear hA
  have hw0 : Below w.heap.size w (w.alloc (.cells #[.int .i64 N, .slice A l.length c] 24)) := (Below.refl _ _).alloc (Nat.le_refl _) _
  have key0 := fun W g h => two_of W g h
  have key1 := fun W A A' B B' h h' => same_rows A A' 2 2 2 2 [[0, 5], [far, 0]] [[0, 5], [far, 0]] B B' W h h' rfl rfl (by decide) (by decide) true (by decide)
  have KEY0 := Lib.hid key0
  have KEY1 := Lib.hid key1
  clear key0 key1
  by_cases hx : aerr N l = 0
  · have k2 := fun W h => yes_of N A c l hll hx W h
    obtain ⟨hg, hneg⟩ := aerr_zero hx
    have hN1 := hg.lo
    have hN2 := hg.hi
    obtain ⟨n, rfl⟩ := Int.eq_ofNat_of_zero_le (show 0 ≤ N by omega)
    simp only [Int.toNat_natCast] at k2 hneg
    have hfl := all_ok hg (fun m hm => neg_false hneg m hm)
    obtain ⟨_, hi2⟩ := wi_spec i n (by omega) (by omega)
    obtain ⟨_, hj2⟩ := wi_spec j n (by omega) (by omega)
    obtain ⟨_, hk2⟩ := wi_spec k n (by omega) (by omega)
    have k3 := fun (W : World) => within_any i n (by omega) (by omega) W
    have k4 := fun (W : World) => within_any j n (by omega) (by omega) W
    have k5 := fun (W : World) => within_any k n (by omega) (by omega) W
    have K2 := Lib.hid k2
    have K3 := Lib.hid k3
    have HFL := Lib.hid hfl
    have K4 := Lib.hid k4
    have K5 := Lib.hid k5
    generalize hwi : wi i n = i1 at *
    generalize hwj : wi j n = j1 at *
    generalize hwk : wi k n = k1 at *
    have HWI := Lib.hid hwi
    have HWJ := Lib.hid hwj
    have HWK := Lib.hid hwk
    clear k2 k3 k4 k5 hfl hg hneg hx hwi hwj hwk hi hj hk
    go_enter Try.func3, Try.ntmps3
    go_wp2_with fail
    refine (two_any _).mono ?_
    rintro e w1 ⟨g, rfl, own1, hb1⟩
    have B1 : Below (w.heap.size + 1) (w.alloc (.cells #[.int .i64 n, .slice A l.length c] 24)) w1 := hb1.mono (by simp)
    have Z1 : w.heap.size + 1 ≤ w1.heap.size := by have := hb1.size; simp at this; omega
    clear hb1
    go_wp2_with fail
    refine (KEY0.out _ _ own1.sl.2).mono ?_
    rintro e w2 ⟨S2, rfl, sr2, hb2⟩
    have B2 := B1.trans (hb2.mono Z1)
    have Z2 : w.heap.size + 1 ≤ w2.heap.size := by have := hb2.size; omega
    have SR2 := Lib.hid sr2
    clear hb2 own1 B1 Z1 sr2
    go_wp2_with fail
    refine (KEY1.out _ _ _ _ _ (SR2.out.keep ((((Below.refl _ _).alloc (Nat.le_refl _) _).alloc (by simp) _).alloc (by simp; omega) _) (Nat.le_refl _)) (sr_lit w2 3 31 #[.int .i64 0, .int .i64 5] #[.int .i64 1099511627776, .int .i64 0] [0, 5] [far, 0] 2 2 rfl rfl rfl rfl rfl rfl rfl)).mono ?_
    rintro e w3 ⟨rfl, n3, rfl⟩
    have B3 := below_drewN (((B2.alloc Z2 (.cells #[.int .i64 0, .int .i64 5] 3)).alloc (by simp; omega) (.cells #[.int .i64 1099511627776, .int .i64 0] 3)).alloc (by simp; omega) (.cells #[.slice (some ⟨w2.heap.size, 0, none⟩) 2 2, .slice (some ⟨w2.heap.size + 1, 0, none⟩) 2 2] 31)) n3
    have Z3 : w.heap.size + 1 ≤ (((w2.alloc (.cells #[.int .i64 0, .int .i64 5] 3)).alloc (.cells #[.int .i64 1099511627776, .int .i64 0] 3)).alloc (.cells #[.slice (some ⟨w2.heap.size, 0, none⟩) 2 2, .slice (some ⟨w2.heap.size + 1, 0, none⟩) 2 2] 31)).heap.size := by simp; omega
    generalize (((w2.alloc (.cells #[.int .i64 0, .int .i64 5] 3)).alloc (.cells #[.int .i64 1099511627776, .int .i64 0] 3)).alloc (.cells #[.slice (some ⟨w2.heap.size, 0, none⟩) 2 2, .slice (some ⟨w2.heap.size + 1, 0, none⟩) 2 2] 31)) = w3 at B3 Z3 ⊢
    clear SR2 B2 Z2
    have z3 : w.heap.size < w3.heap.size := by omega
    have H3 := hw0.trans (B3.mono (Nat.le_succ _))
    obtain ⟨cc3, _⟩ := keepAt B3 (Nat.lt_succ_self _)
    have q0 := cc3 0
    have q1 := cc3 1
    simp at q0 q1
    clear cc3
    go_wp2_with fail
    refine (K2.out _ ((hs.keep H3 (Nat.le_refl _)).more (by simp; omega))).mono ?_
    rintro e w4 ⟨S4, F4, rfl, mt4, hb4⟩
    have B4 := B3.trans (hb4.mono Z3)
    have H4 := hw0.trans (B4.mono (Nat.le_succ _))
    have z4 : w.heap.size < w4.heap.size := by have := hb4.size; simp at this; omega
    have MT4 := Lib.hid mt4
    clear hb4 mt4 q0 q1 hs
    obtain ⟨cc4, _⟩ := keepAt B4 (Nat.lt_succ_self _)
    have q0 := cc4 0
    have q1 := cc4 1
    simp at q0 q1
    clear cc4 B4 B3 H3 z3 Z3
    have hh1 := MT4.out.head (v := i1) hi2
    have hh2 := MT4.out.head (v := k1) hk2
    obtain ⟨c1, _⟩ := MT4.out.cell (v := i1) (j := i1) hi2 hi2
    obtain ⟨c2, _⟩ := MT4.out.cell (v := i1) (j := k1) hi2 hk2
    obtain ⟨c3, _⟩ := MT4.out.cell (v := k1) (j := j1) hk2 hj2
    obtain ⟨c4, _⟩ := MT4.out.cell (v := i1) (j := j1) hi2 hj2
    rw [HFL.out.self i1 hi2] at c1
    have hx0 := HFL.out.hi i1 k1
    have hy0 := HFL.out.hi k1 j1
    have hx1 := HFL.out.small i1 k1 hi2 hk2
    have hy1 := HFL.out.small k1 j1 hk2 hj2
    have hz1 := HFL.out.tri i1 j1 k1 hi2 hj2 hk2
    unfold q at c1 c2 c3 c4
    generalize all n l i1 k1 = x at *
    generalize all n l k1 j1 = y at *
    generalize all n l i1 j1 = z at *
    unfold far at hx0 hx1 hy0 hy1 hz1
    go_wp2
    go_quiet ((go_at_call 18; first | (with_reducible exact Calls.quiet_of_same (K3.out _)) | (with_reducible exact Calls.quiet_of_same (K4.out _)) | (with_reducible exact Calls.quiet_of_same (K5.out _))))
    have H5 := below_drewN H4 nq
    clear H4
    go_wp2
    by_cases hxf : x = 1099511627776
    · have d1 : (x == 1099511627776) = true := by simp; exact hxf
      clear hx0 hx1 hy0 hy1 hz1 hxf
      go_quiet (fail)
      go_wp2
      go_ret
      exact ⟨rfl, by first | exact below_drewN H5 _ | (have h := below_drewN H5 nq_1; simpa using h)⟩
    · have d1 : (x == 1099511627776) = false := by simp; exact hxf
      have hx2 : x < 1099511627776 := by omega
      obtain ⟨x0, x1⟩ := hx1 hx2
      by_cases hyf : y = 1099511627776
      · have d2 : (y == 1099511627776) = true := by simp; exact hyf
        clear hx0 hy0 hy1 hz1 hxf hyf
        go_quiet (fail)
        go_wp2
        go_ret
        exact ⟨rfl, below_drewN H5 _⟩
      · have d2 : (y == 1099511627776) = false := by simp; exact hyf
        have hy2 : y < 1099511627776 := by omega
        obtain ⟨y0, y1⟩ := hy1 hy2
        have hz2 := hz1 hx2 hy2
        clear hx0 hy0 hy1 hz1 hxf hyf
        go_quiet (fail)
        go_wp2
        go_ret
        exact ⟨rfl, below_drewN H5 _⟩
  · have k2 := fun W h => no_of N A c l hll hx W h
    have hne : (aerr N l != 0) = true := by rw [bne_iff_ne]; exact hx
    generalize aerr N l = er at *
    have K2 := Lib.hid k2
    clear k2 hx
    go_enter Try.func3, Try.ntmps3
    go_wp2_with fail
    refine (two_any _).mono ?_
    rintro e w1 ⟨g, rfl, own1, hb1⟩
    have B1 : Below (w.heap.size + 1) (w.alloc (.cells #[.int .i64 N, .slice A l.length c] 24)) w1 := hb1.mono (by simp)
    have Z1 : w.heap.size + 1 ≤ w1.heap.size := by have := hb1.size; simp at this; omega
    clear hb1
    go_wp2_with fail
    refine (KEY0.out _ _ own1.sl.2).mono ?_
    rintro e w2 ⟨S2, rfl, sr2, hb2⟩
    have B2 := B1.trans (hb2.mono Z1)
    have Z2 : w.heap.size + 1 ≤ w2.heap.size := by have := hb2.size; omega
    have SR2 := Lib.hid sr2
    clear hb2 own1 B1 Z1 sr2
    go_wp2_with fail
    refine (KEY1.out _ _ _ _ _ (SR2.out.keep ((((Below.refl _ _).alloc (Nat.le_refl _) _).alloc (by simp) _).alloc (by simp; omega) _) (Nat.le_refl _)) (sr_lit w2 3 31 #[.int .i64 0, .int .i64 5] #[.int .i64 1099511627776, .int .i64 0] [0, 5] [far, 0] 2 2 rfl rfl rfl rfl rfl rfl rfl)).mono ?_
    rintro e w3 ⟨rfl, n3, rfl⟩
    have B3 := below_drewN (((B2.alloc Z2 (.cells #[.int .i64 0, .int .i64 5] 3)).alloc (by simp; omega) (.cells #[.int .i64 1099511627776, .int .i64 0] 3)).alloc (by simp; omega) (.cells #[.slice (some ⟨w2.heap.size, 0, none⟩) 2 2, .slice (some ⟨w2.heap.size + 1, 0, none⟩) 2 2] 31)) n3
    have Z3 : w.heap.size + 1 ≤ (((w2.alloc (.cells #[.int .i64 0, .int .i64 5] 3)).alloc (.cells #[.int .i64 1099511627776, .int .i64 0] 3)).alloc (.cells #[.slice (some ⟨w2.heap.size, 0, none⟩) 2 2, .slice (some ⟨w2.heap.size + 1, 0, none⟩) 2 2] 31)).heap.size := by simp; omega
    generalize (((w2.alloc (.cells #[.int .i64 0, .int .i64 5] 3)).alloc (.cells #[.int .i64 1099511627776, .int .i64 0] 3)).alloc (.cells #[.slice (some ⟨w2.heap.size, 0, none⟩) 2 2, .slice (some ⟨w2.heap.size + 1, 0, none⟩) 2 2] 31)) = w3 at B3 Z3 ⊢
    clear SR2 B2 Z2
    have z3 : w.heap.size < w3.heap.size := by omega
    have H3 := hw0.trans (B3.mono (Nat.le_succ _))
    obtain ⟨cc3, _⟩ := keepAt B3 (Nat.lt_succ_self _)
    have q0 := cc3 0
    have q1 := cc3 1
    simp at q0 q1
    clear cc3
    go_wp2_with fail
    refine (K2.out _ ((hs.keep H3 (Nat.le_refl _)).more (by simp; omega))).mono ?_
    rintro e w4 ⟨rfl, hb4⟩
    have H4 := H3.trans (hb4.mono (by simp; omega))
    clear hb4 B3 H3 z3 Z3 q0 q1
    go_wp2
    go_ret
    exact ⟨rfl, H4⟩

theorem own : ownKnob Try.prog.godebug = none := by kernel_rfl
theorem laidOut : laidOutB Try.prog = true := by kernel_rfl

set_option maxRecDepth 100000 in
theorem lifted (os : Os) (started : os.Started) (H : Type) (enc : TypeId × Value → H) :
    ReturnsInHanded {} Try.checked os 3 .any (Rows.floydBetweenSpec.pre6 enc Try.prog Try.f3 Rows.floydBetweenRow.domain false) (Rows.floydBetweenSpec.post enc Try.prog Try.f3 false true false false) := by
  refine returnsInHanded_of_change (C := Try.checked) own started (by kernel_rfl) Try.func3
    (ChangeSpec.witness6 (enc := enc) (C := Try.checked) false ⟨#[], #[.agg #[.int .i64 0, .slice none 0 0], .int .i64 0, .int .i64 0, .int .i64 0], []⟩ 8 (by kernel_rfl) (by kernel_rfl) (by kernel_rfl) (by kernel_rfl)) ?_
  intro W base args ds gs before hval0 hW hcnd _
  have hval : ∀ (j : Nat) t v, Try.f3.params[j]? = some t → args[j]? = some v → Value.okWide Try.prog W .any base t v := hval0
  have hW' := hW
  obtain ⟨p, q, hA0, hV, rfl, hfz, hnd⟩ := hW
  have hA : DataW.TrodAll enc Try.prog W 0 (fun _ => true) true Try.f3.params.toList args.toList ds p := hA0
  rw [Try.params3] at hA hval
  obtain ⟨v0, vs0, d0, ds0, p0, q0, hargs, rfl, rfl, h0, r0⟩ := trodAll_cons hA
  obtain ⟨v1, vs1, d1, ds1, p1, q1, rfl, rfl, rfl, h1, r1⟩ := trodAll_cons r0
  obtain ⟨v2, vs2, d2, ds2, p2, q2, rfl, rfl, rfl, h2, r2⟩ := trodAll_cons r1
  obtain ⟨v3, vs3, d3, ds3, p3, q3, rfl, rfl, rfl, h3, r3⟩ := trodAll_cons r2
  obtain ⟨rfl, rfl, rfl⟩ := trodAll_nil r3
  obtain rfl : args = #[v0, v1, v2, v3] := by cases args; simp_all
  obtain ⟨rfl, rfl⟩ := trodVars_none hV
  obtain ⟨N0, A0, c0, l0, dd0, rfl, hN0, hG0, hb0, rfl, hd0⟩ := open_net Try.underlying24 (by kernel_rfl) (by kernel_rfl) Try.underlying3 Try.underlying22 Try.underlying35 (by kernel_rfl) (by kernel_rfl) Try.underlying3 Try.underlying3 Try.underlying3 (hval 0 24 v0 rfl rfl) h0
  obtain ⟨a1, rfl, rfl, rfl, wa1⟩ := open_int Try.underlying3 (hval 1 3 v1 rfl rfl) h1
  obtain ⟨a2, rfl, rfl, rfl, wa2⟩ := open_int Try.underlying3 (hval 2 3 v2 rfl rfl) h2
  obtain ⟨a3, rfl, rfl, rfl, wa3⟩ := open_int Try.underlying3 (hval 3 3 v3 rfl rfl) h3
  refine (walk W N0 A0 c0 l0 hG0 a1 (wf_bd wa1) a2 (wf_bd wa2) a3 (wf_bd wa3)).mono fun e W' ⟨he, hB⟩ => ?_
  subst he
  exact ⟨_, rfl, post_of_law laidOut rfl Try.underlying4 rfl (by intro t ht; rw [Try.params3] at ht; simp at ht; rcases ht with rfl | rfl | rfl | rfl <;> exact ⟨by kernel_rfl, of_decide_eq_true (by kernel_rfl)⟩) hW' rfl hB⟩

theorem holds : Rows.FloydBetweenSaid :=
  OpenClaim.holds_of_wide 3 Try.f3 rfl rfl rfl rfl rfl rfl rfl ⟨rfl, rfl, rfl, rfl, rfl⟩ rfl rfl rfl rfl rfl (by kernel_rfl) Try.func3 (by kernel_rfl)
    (of_decide_eq_true (by kernel_rfl)) (by unfold Func.isWrapper; first | (rw [if_pos (by decide +kernel)]; kernel_rfl) | (rw [if_neg (by decide +kernel)]; exact ⟨rfl, rfl⟩))
    (fun os started H enc _ => lifted os started H enc)
#print axioms holds
end Go.Proofs.Ytdgglgiafmndnaa.FloydBetweenLaw
