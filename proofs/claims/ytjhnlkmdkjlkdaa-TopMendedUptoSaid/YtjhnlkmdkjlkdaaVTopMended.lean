/- For every net, two places and pairs: TopMended answers true (a plan that is mended step by step tells what a new one tells), and the arguments read as before. The condition is the size of the arguments: together 2^20 elements at most. -/
import Derived.Test.YtjhnlkmdkjlkdaaRows
import Derived.Test.YtjhnlkmdkjlkdaaVOpen
import Derived.Test.YtjhnlkmdkjlkdaaVBulk
import Derived.Test.YtjhnlkmdkjlkdaaVLifeUse
import Derived.Test.YtjhnlkmdkjlkdaaVTopLaw
import Derived.Test.YtjhnlkmdkjlkdaaVUnionOf
namespace Go.Proofs.Ytjhnlkmdkjlkdaa.TopMendedLaw
open Go.ChangeShapes Go.WideShapes Go.ChangeAt Go.RowKit Go.Proofs.Ytjhnlkmdkjlkdaa NetLaw LifeLaw Go.Proofs.Ytjhnlkmdkjlkdaa.Net Go.Proofs.Ytjhnlkmdkjlkdaa.Life Go.Proofs.Ytjhnlkmdkjlkdaa.Std
set_option linter.unusedSimpArgs false
set_option linter.unusedVariables false
theorem own_nil {w : World} {b c : Nat} {e : TypeId} {A : Option Addr} {l : List E} (h : Own w b e 3 ce (.slice A l.length c) l) : A = none → l.length = 0 ∧ c = 0 := by
  obtain ⟨A', c', he, _, hn⟩ := h.form
  injection he with a b c
  subst a c
  exact hn

set_option maxRecDepth 100000 in
set_option maxHeartbeats 8000000 in
theorem walk (w : World) (N : Int) (A : Option Addr) (c : Nat) (l : List E) (hA : Arg w 3 ce A c l) (a : Int) (ha : -9223372036854775808 ≤ a ∧ a ≤ 9223372036854775807) (b : Int) (hb : -9223372036854775808 ≤ b ∧ b ≤ 9223372036854775807) (A2 : Option Addr) (c2 : Nat) (ps : List (Int × Int)) (hA2 : Arg w 2 cp A2 c2 ps)
    (hbulk : l.length + ps.length ≤ 1048576) :
    Calls Try.prog 12 #[.agg #[.int .i64 N, .slice A l.length c], .int .i64 a, .int .i64 b, .slice A2 ps.length c2] w fun e w' => e = .returned (.bool true) ∧ Below w.heap.size w w' := by
  have hs := hA.sl
  have hnil := hA.nil
  have hps := hA2.sl
  have hll : l.length ≤ 9223372036854775807 := Nat.le_trans hA.cap hA.max
  have hpl : ps.length ≤ 1048576 := by omega
  clear hA hA2 ha hb hbulk
  have hw0 : Below w.heap.size w (w.alloc (.cells #[.int .i64 N, .slice A l.length c] 24)) := (Below.refl _ _).alloc (Nat.le_refl _) _
  have hsl : Sl (w.alloc (.cells #[.int .i64 N, .slice A l.length c] 24)) (w.alloc (.cells #[.int .i64 N, .slice A l.length c] 24)).heap.size 3 ce A l := (hs.keep hw0 (Nat.le_refl _)).more (by simp)
  have kbg := fun W => TopLaw.begun_any W
  have KBG := Lib.hid kbg
  clear kbg hs
  by_cases hx : Dijk.look N l [a, b] = 0
  · obtain ⟨hg, hc, ⟨f0, f1⟩, t0, t1⟩ := DijkWay.looks_zero hx
    have hlo := hg.lo
    obtain ⟨n, rfl⟩ := Int.eq_ofNat_of_zero_le (show 0 ≤ N by omega)
    obtain ⟨s, rfl⟩ := Int.eq_ofNat_of_zero_le f0
    obtain ⟨t, rfl⟩ := Int.eq_ofNat_of_zero_le t0
    have kn := new_pln n s t A c l _ hsl hnil hx
    have KN := Lib.hid kn
    clear kn hg hc hx hsl hlo f0 f1 t0 t1 hll hnil
    go_enter Try.func12, Try.ntmps12
    go_wp2_with fail
    refine KN.out.mono ?_
    rintro e w1 ⟨P, rfl, HP1⟩
    generalize hW0 : w.alloc (.cells #[.int .i64 n, .slice A l.length c] 24) = W0 at *
    have H1 := hw0.trans (HP1.out.lo.mono hw0.size)
    clear hW0
    go_wp2_with fail
    refine (KBG.out w1).mono ?_
    rintro e w2 ⟨rfl, hb2⟩
    have hp2 := HP1.out.keep hb2
    have HP2 := Lib.hid hp2
    clear HP1 H1 hb2 hp2 KN
    go_wp2
    trace_state
    go_loopw [42] (fun i wr => ∃ (k : Nat) (l' : List E) (m : Nat) (wk : Int), k ≤ ps.length ∧ i = .int .i64 k ∧ Hid (Pln W0 wr n s t P l' m wk) ∧ m ≤ 1 + k * 80001) (fun i _ => ps.length - (intOf i).toNat)
    case atStart => exact ⟨0, l, 1, 0, Nat.zero_le _, rfl, HP2, by omega⟩
    case round =>
      clear HP2
      obtain ⟨k, l', m, wk, hk, rfl, HP, hm⟩ := hrel
      have HB : Below w.heap.size w wr := hw0.trans (HP.out.lo.mono hw0.size)
      by_cases hlt : k < ps.length
      · obtain ⟨bb, off, x, y, rfl, hbb, he, hcx, hcy⟩ := Go.Proofs.Ytjhnlkmdkjlkdaa.Union.Sl.atP (hps.keep HB (Nat.le_refl _)) hlt
        have hbz : bb < wr.heap.size := by have := HB.size; omega
        have kst := set_pln (HP.out.keep ((Below.refl _ _).alloc (Nat.le_refl _) (.cells #[.int .i64 x, .int .i64 y] 61))) (by omega) x y
        have KST := Lib.hid kst
        clear kst he
        go_wp2_with fail
        refine KST.out.mono ?_
        rintro e w3 ⟨rfl, HP3, HK3, hz3⟩
        have kwy := way_pln HP3.out (by omega)
        have KWY := Lib.hid kwy
        clear kwy HK3 hcx hcy KST
        generalize serr l' x y = er0 at *
        generalize edt l' x y = l2 at *
        go_wp2_with fail
        refine KWY.out.mono ?_
        rintro e w4 ⟨A4, k4, c4, co4, er4, wk4, rfl, HP4, _, HK4, hz4, HW4⟩
        have hm5 := HP4.out.keep ((Below.refl _ _).alloc (Nat.le_refl _) (.cells #[.slice A4 k4 c4, .int .i64 co4] 48))
        have hz5 := heap_alloc_new w4 (.cells #[.slice A4 k4 c4, .int .i64 co4] 48)
        have knt := net_pln hm5
        have KNT := Lib.hid knt
        have HP5 := Lib.hid hm5
        have HZ5 := Lib.hid hz5
        clear knt hm5 hz5 HK4 KWY
        go_wp2_with fail
        refine KNT.out.mono ?_
        rintro e w6 ⟨A6, c6, rfl, own6, hb6⟩
        have hp6 := HP5.out.keep hb6
        have hz6 := blk_below HZ5.out hb6 (lt_of_block HZ5.out)
        obtain ⟨hgd, htn⟩ := hp6.gd
        have kn2 := new_pln n s t A6 c6 l2 w6 own6.sl.2 (own_nil own6) (Gd.look hgd htn)
        have KN2 := Lib.hid kn2
        have HP6 := Lib.hid hp6
        have HZ6 := Lib.hid hz6
        clear kn2 hp6 hz6 own6 hb6 hgd KNT
        go_wp2_with fail
        refine KN2.out.mono ?_
        rintro e w7 ⟨P2, rfl, HQ⟩
        have kw2 := way_pln HQ.out (by omega)
        have KW2 := Lib.hid kw2
        clear kw2 KN2
        go_wp2_with fail
        refine KW2.out.mono ?_
        rintro e w8 ⟨A8, k8, c8, co8, er8, wk8, rfl, HQ8, _, HK8, hz8, HW8⟩
        obtain ⟨e1, e2⟩ := HW4.out.same HW8.out
        subst e1 e2
        have hlo8 := HQ8.out.lo
        have hz9 := blk_below HZ6.out hlo8 (lt_of_block HZ6.out)
        have hp9 := (HP6.out.keep hlo8).keep ((Below.refl _ _).alloc (Nat.le_refl _) (.cells #[.slice A8 k8 c8, .int .i64 co4] 48))
        have zc := blk_cell hz9 1
        simp only [List.getElem?_toArray, List.getElem?_cons_zero, List.getElem?_cons_succ] at zc
        have zz := lt_of_block hz9
        have HP9 := Lib.hid hp9
        clear hlo8 hz9 hp9 KW2 HK8
        go_wp2
        go_roundw
        case rel => exact ⟨k + 1, l2, m + 1 + 80000, wk4, by omega, by go_num, HP9, by omega⟩
        case measure => simp [intOf]; omega
      · obtain rfl : k = ps.length := by omega
        have HBB := Lib.hid HB
        clear HB
        go_wp2
        go_ret
        exact ⟨rfl, HBB.out⟩
  · have kn := new_no N a b A c l _ hsl hll hx
    have hne : (Dijk.look N l [a, b] != 0) = true := by rw [bne_iff_ne]; exact hx
    generalize Dijk.look N l [a, b] = x at *
    have KN := Lib.hid kn
    clear kn hx hsl
    go_enter Try.func12, Try.ntmps12
    go_wp2_with fail
    refine KN.out.mono ?_
    rintro e w1 ⟨rfl, hb1⟩
    have H1 := hw0.trans (hb1.mono hw0.size)
    clear hb1 KN
    go_wp2_with fail
    refine (KBG.out w1).mono ?_
    rintro e w2 ⟨rfl, hb2⟩
    have H2 := H1.trans (hb2.mono H1.size)
    clear hb2 H1
    go_wp2_with fail
    refine (KBG.out w2).mono ?_
    rintro e w3 ⟨rfl, hb3⟩
    have H3 := Lib.hid (H2.trans (hb3.mono H2.size))
    clear hb3 H2
    go_wp2
    go_ret
    exact ⟨by simp, H3.out⟩

theorem own : ownKnob Try.prog.godebug = none := by kernel_rfl
theorem laidOut : laidOutB Try.prog = true := by kernel_rfl

set_option maxRecDepth 100000 in
theorem contract (H : Type) (enc : TypeId × Value → H) (W : World) (base : Nat) (args : Array Value) (ds gs : List (DataW H)) (before : List MemPlace)
    (hval0 : ∀ (j : Nat) t v, Try.f12.params[j]? = some t → args[j]? = some v → Value.okWide Try.prog W .any base t v)
    (hW : DataW.Whole enc Try.prog Try.f12.params.toList Rows.topMendedSpec.vars false W args.toList ds gs before) (hk : Rows.uptoSmall H (ds ++ gs) = true) :
    Calls Try.prog 12 args W fun e W' => ∃ v, e = .returned v ∧ Rows.topMendedSpec.post enc Try.prog Try.f12 false true false false W args v W' := by
  have hval : ∀ (j : Nat) t v, Try.f12.params[j]? = some t → args[j]? = some v → Value.okWide Try.prog W .any base t v := hval0
  have hW' := hW
  obtain ⟨p, q, hA0, hV, rfl, hfz, hnd⟩ := hW
  have hA : DataW.TrodAll enc Try.prog W 0 (fun _ => true) true Try.f12.params.toList args.toList ds p := hA0
  rw [Try.params12] at hA hval
  obtain ⟨v0, vs0, d0, ds0, p0, q0, hargs, rfl, rfl, h0, r0⟩ := trodAll_cons hA
  obtain ⟨v1, vs1, d1, ds1, p1, q1, rfl, rfl, rfl, h1, r1⟩ := trodAll_cons r0
  obtain ⟨v2, vs2, d2, ds2, p2, q2, rfl, rfl, rfl, h2, r2⟩ := trodAll_cons r1
  obtain ⟨v3, vs3, d3, ds3, p3, q3, rfl, rfl, rfl, h3, r3⟩ := trodAll_cons r2
  obtain ⟨rfl, rfl, rfl⟩ := trodAll_nil r3
  obtain rfl : args = #[v0, v1, v2, v3] := by cases args; simp_all
  obtain ⟨rfl, rfl⟩ := trodVars_none hV
  obtain ⟨N0, A0, c0, l0, dd0, rfl, hN0, hG0, hb0, rfl, hd0⟩ := open_net Try.underlying24 (by kernel_rfl) (by kernel_rfl) Try.underlying3 Try.underlying22 Try.underlying30 (by kernel_rfl) (by kernel_rfl) Try.underlying3 Try.underlying3 Try.underlying3 (hval 0 24 v0 rfl rfl) h0
  obtain ⟨a1, rfl, rfl, rfl, wa1⟩ := open_int Try.underlying3 (hval 1 3 v1 rfl rfl) h1
  obtain ⟨a2, rfl, rfl, rfl, wa2⟩ := open_int Try.underlying3 (hval 2 3 v2 rfl rfl) h2
  obtain ⟨A3, c3, l3, rfl, hG3, hd3, hb3⟩ := open_sl2 Try.underlying54 Try.underlying61 (by kernel_rfl) (by kernel_rfl) Try.underlying3 Try.underlying3 (hval 3 54 v3 rfl rfl) h3
  have hbulk := bulk_bound hk
  simp only [List.cons_append, List.nil_append, List.append_nil, Rows.uptoBulkAll] at hbulk
  have hq0 := bulk_agg2 (x := .lit (.int .i64 N0)) hd0
  have hq1 := bulk_len hd3
  refine (walk W N0 A0 c0 l0 hG0 a1 (wf_bd wa1) a2 (wf_bd wa2) A3 c3 l3 hG3 (by omega)).mono fun e W' ⟨he, hB⟩ => ?_
  subst he
  exact ⟨_, rfl, post_of_law laidOut rfl Try.underlying4 rfl (by intro t ht; rw [Try.params12] at ht; simp at ht; rcases ht with rfl | rfl | rfl | rfl <;> exact ⟨by kernel_rfl, of_decide_eq_true (by kernel_rfl)⟩) hW' rfl hB⟩

set_option maxRecDepth 100000 in
theorem lifted (os : Os) (started : os.Started) (H : Type) (enc : TypeId × Value → H) (F : Stop.Interp) :
    ReturnsInHanded {} Try.checked os 12 .any ((Rows.OpenSpec.upto Rows.topMendedSpec).pre6 enc Try.prog Try.f12 Rows.topMendedUptoRow.domain false) (((Rows.OpenSpec.upto Rows.topMendedSpec).at F).post enc Try.prog Try.f12 false true false false) := by
  refine returnsInHanded_of_cond (C := Try.checked) (s := Rows.OpenSpec.upto Rows.topMendedSpec) (k := Rows.uptoSmall) rfl own started (by kernel_rfl) Try.func12
    (OpenSpec.witness (enc := enc) (C := Try.checked) (s := Rows.OpenSpec.upto Rows.topMendedSpec) (k := Rows.uptoSmall) rfl false ⟨#[], #[.agg #[.int .i64 0, .slice none 0 0], .int .i64 0, .int .i64 0, .slice none 0 0], []⟩ 8 (by kernel_rfl) (by kernel_rfl) (by kernel_rfl)
      (x := ([.agg [.lit (.int .i64 0), .nil], .lit (.int .i64 0), .lit (.int .i64 0), .nil], [], [])) (by kernel_rfl) rfl (by kernel_rfl)) ?_
  intro W base args ds gs before hval hW _ hk _
  exact contract H enc W base args ds gs before hval hW hk

theorem holds : Rows.TopMendedUptoSaid :=
  OpenClaim.holds_of_cond 12 Try.f12 rfl rfl rfl rfl rfl rfl rfl ⟨rfl, rfl, rfl, rfl, rfl⟩ rfl rfl rfl rfl rfl (by kernel_rfl) Try.func12 (by kernel_rfl)
    (of_decide_eq_true (by kernel_rfl)) (by unfold Func.isWrapper; first | (rw [if_pos (by decide +kernel)]; kernel_rfl) | (rw [if_neg (by decide +kernel)]; exact ⟨rfl, rfl⟩))
    (fun os started H enc _ F => lifted os started H enc F)
#print axioms holds
end Go.Proofs.Ytjhnlkmdkjlkdaa.TopMendedLaw
