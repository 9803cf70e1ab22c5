/- For every net and two numbers: CompLeads answers true (two places are in one knot just if walks lead both ways; turned round the knots are the same), and the arguments read as before. No condition. -/
import Derived.Test.YtjhnlkmdkjlkdaaRows
import Derived.Test.YtjhnlkmdkjlkdaaOpen
import Derived.Test.YtjhnlkmdkjlkdaaCompUse
import Derived.Test.YtjhnlkmdkjlkdaaFloydReachFn
import Derived.Test.YtjhnlkmdkjlkdaaWithin
import Derived.IntWalk
namespace Go.Proofs.Ytjhnlkmdkjlkdaa.CompLeadsLaw
open Go.ChangeShapes Go.WideShapes Go.ChangeAt Go.RowKit Go.Proofs.Ytjhnlkmdkjlkdaa NetLaw FloydLaw CompLaw Go.Proofs.Ytjhnlkmdkjlkdaa.Net Go.Proofs.Ytjhnlkmdkjlkdaa.Mat Go.Proofs.Ytjhnlkmdkjlkdaa.Within Go.Proofs.Ytjhnlkmdkjlkdaa.Std Go.Proofs.Ytjhnlkmdkjlkdaa.Comp
set_option linter.unusedSimpArgs false
set_option linter.unusedVariables false
set_option maxRecDepth 100000 in
set_option maxHeartbeats 4000000 in
theorem walk (w : World) (N : Int) (A : Option Addr) (c : Nat) (l : List E) (hA : Arg w 3 ce A c l) (i : Int) (hi : -9223372036854775808 ≤ i ∧ i ≤ 9223372036854775807) (j : Int) (hj : -9223372036854775808 ≤ j ∧ j ≤ 9223372036854775807) :
    Calls Try.prog 3 #[.agg #[.int .i64 N, .slice A l.length c], .int .i64 i, .int .i64 j] w fun e w' => e = .returned (.bool true) ∧ Below w.heap.size w w' := by
  have hs := hA.sl
  have hll : l.length ≤ 9223372036854775807 := Nat.le_trans hA.cap hA.max
  clear hA
  have hw0 : Below w.heap.size w (w.alloc (.cells #[.int .i64 N, .slice A l.length c] 24)) := (Below.refl _ _).alloc (Nat.le_refl _) _
  have key0 := fun W g h => of_three W g h
  have key1 := fun W A A' c c' B B' h h' => equal_int' A A' 3 3 c c' [0, 1, 1] [0, 1, 1] B B' W h h' rfl rfl (by decide) true (by decide)
  have KEY0 := Lib.hid key0
  have KEY1 := Lib.hid key1
  clear key0 key1
  by_cases hg : NetLaw.Good N l
  · have hN1 := hg.lo
    have hN2 := hg.hi
    have hgc := chk_zero.2 hg
    obtain ⟨n, rfl⟩ := Int.eq_ofNat_of_zero_le (show 0 ≤ N by omega)
    have k2 := fun W h => turn_yes n A c l W h hg
    obtain ⟨_, hi2⟩ := wi_spec i n (by omega) (by omega)
    obtain ⟨_, hj2⟩ := wi_spec j n (by omega) (by omega)
    have k3 := fun (W : World) => within_any i n (by omega) (by omega) W
    have k4 := fun (W : World) => within_any j n (by omega) (by omega) W
    have k5 := fun W h => of_yes n A c l W h hg
    have k6 := fun W h => FloydReach.yes_of n A c l hll hgc W h
    have k7 := fun W A' c' h => of_yes n A' c' (tl l) W h (turned_good hg)
    simp only [Int.toNat_natCast] at k6
    have hln := tl_len l
    have hsame := fun (L : List Int) (h : ∀ v : Nat, v < n → Lst l v (L.getD v 0)) => same_leads (edge := FloydReach.yes) (fun _ => rfl) hg h hi2 hj2
    have hturn := fun (L M : List Int) (h1 : L.length = n) (h2 : M.length = n) (h3 : ∀ v : Nat, v < n → Lst l v (L.getD v 0)) (h4 : ∀ v : Nat, v < n → Lst (tl l) v (M.getD v 0)) => lst_turn h1 h2 h3 h4
    have K2 := Lib.hid k2
    have K3 := Lib.hid k3
    have K4 := Lib.hid k4
    have K5 := Lib.hid k5
    have K6 := Lib.hid k6
    have K7 := Lib.hid k7
    have HSAME := Lib.hid hsame
    have HTURN := Lib.hid hturn
    generalize hwi : wi i n = i1 at *
    generalize hwj : wi j n = j1 at *
    clear k2 k3 k4 k5 k6 k7 hg hgc hwi hwj hi hj hsame hturn
    generalize tl l = lt at *
    have HLN := Lib.hid hln
    clear hln
    go_enter Try.func3, Try.ntmps3
    go_wp2_with fail
    refine (KEY0.out _ _ (sl_new' (by decide) (w.alloc (.cells #[.int .i64 n, .slice A l.length c] 24)) #[.int .i64 1, .int .i64 2, .int .i64 0, .int .i64 2, .int .i64 1, .int .i64 0] 30 _ (by simp) rfl)).mono ?_
    rintro e w2 ⟨S2, rfl, own2, hb2⟩
    have B2 : Below (w.heap.size + 1) (w.alloc (.cells #[.int .i64 n, .slice A l.length c] 24)) w2 := ((Below.refl _ _).alloc (by simp) (.cells #[.int .i64 1, .int .i64 2, .int .i64 0, .int .i64 2, .int .i64 1, .int .i64 0] 30)).trans (hb2.mono (by simp))
    have Z2 : w.heap.size + 1 ≤ w2.heap.size := by have := B2.size; simpa using this
    clear hb2
    go_wp2_with fail
    refine (KEY1.out _ _ _ _ _ _ _ (own2.alloc _).sl.2 (sl_new' (by decide) w2 #[.int .i64 0, .int .i64 1, .int .i64 1] _ _ rfl rfl)).mono ?_
    rintro e w3 ⟨rfl, n3, rfl⟩
    have B3 := below_drewN (B2.alloc Z2 (.cells #[.int .i64 0, .int .i64 1, .int .i64 1] 3)) n3
    generalize ((w2.alloc (.cells #[.int .i64 0, .int .i64 1, .int .i64 1] 3)).drewN n3) = w3 at B3 ⊢
    clear own2 B2 Z2
    have hkeep : ∀ wx, Below (w.heap.size + 1) (w.alloc (.cells #[.int .i64 n, .slice A l.length c] 24)) wx → wx.cell? ⟨w.heap.size, 0, none⟩ = some (.int .i64 n) ∧ wx.cell? ⟨w.heap.size, 1, none⟩ = some (.slice A l.length c) ∧ w.heap.size + 1 ≤ wx.heap.size ∧ Sl wx wx.heap.size 3 ce A l ∧ Below w.heap.size w wx := fun wx hx => by
      have hX0 := hw0.trans (hx.mono (Nat.le_succ _))
      have hzx : w.heap.size + 1 ≤ wx.heap.size := by have := hx.size; simpa using this
      obtain ⟨c1, _⟩ := keepAt hx (Nat.lt_succ_self _)
      exact ⟨(c1 0).trans (by simp), (c1 1).trans (by simp), hzx, (hs.keep hX0 (Nat.le_refl _)).more (by omega), hX0⟩
    have HK := Lib.hid hkeep
    clear hkeep
    obtain ⟨q0, q1, z3, _, H3⟩ := HK.out _ B3
    go_wp2_with fail
    refine (K5.out _ ((hs.keep H3 (Nat.le_refl _)).more (by omega))).mono ?_
    rintro e w4 ⟨S4, L, rfl, own4, hL4, hL5, hb4⟩
    have B4 := B3.trans (hb4.mono (by omega))
    clear q0 q1 B3 H3 z3
    obtain ⟨q0, q1, z4, sg, H4⟩ := HK.out _ B4
    go_wp2_with fail
    refine (K6.out _ sg).mono ?_
    rintro e w5 ⟨S5, F5, rfl, mt5, hb5⟩
    have B5 := B4.trans (hb5.mono (by omega))
    have own5 := own4.keep hb5
    have MT5 := Lib.hid mt5
    clear q0 q1 z4 sg H4 B4 own4 hb4 mt5 hb5
    obtain ⟨q0, q1, z5, sg, H5⟩ := HK.out _ B5
    have OWN5 := Lib.hid own5
    clear own5
    go_wp2_with fail
    refine (K2.out _ sg).mono ?_
    rintro e w6 ⟨A6, c6, rfl, own6, hb6⟩
    have B6 := B5.trans (hb6.mono (by omega))
    have OWN6 := Lib.hid (OWN5.out.keep hb6)
    have MT6 := Lib.hid (MT5.out.keep hb6)
    clear q0 q1 z5 sg H5 B5 hb6 OWN5 MT5
    obtain ⟨q0, q1, z6, sg, H6⟩ := HK.out _ B6
    have b6 := heap_alloc_new w6 (.cells #[.int .i64 n, .slice A6 lt.length c6] 24)
    have B7 := B6.alloc z6 (.cells #[.int .i64 n, .slice A6 lt.length c6] 24)
    have hk6 : Below w6.heap.size w6 (w6.alloc (.cells #[.int .i64 n, .slice A6 lt.length c6] 24)) := (Below.refl _ _).alloc (Nat.le_refl _) _
    have OWN7 := Lib.hid (OWN6.out.keep hk6)
    have MT7 := Lib.hid (MT6.out.keep hk6)
    have SH7 := Lib.hid ((own6.keep hk6).sl.2)
    have BX7 := Lib.hid b6
    have hlt6 : w.heap.size < w6.heap.size := by omega
    clear q0 q1 z6 sg H6 B6 OWN6 MT6 own6 b6 hk6
    go_upto_region 9 with fail
    generalize w6.alloc (.cells #[.int .i64 n, .slice A6 lt.length c6] 24) = w7 at B7 OWN7 MT7 SH7 BX7 ⊢
    obtain ⟨g6, hg6⟩ : ∃ g6, g6 = w6.heap.size := ⟨_, rfl⟩
    rw [← hg6] at BX7 hlt6 ⊢
    clear hg6
    obtain ⟨q0, q1, z7, sg, H7⟩ := HK.out _ B7
    have p0 := blk_cell BX7.out 0
    have p1 := blk_cell BX7.out 1
    simp only [List.getElem?_toArray, List.getElem?_cons_zero, List.getElem?_cons_succ] at p0 p1
    have hnn : ((n : Int) != (n : Int)) = false := by simp
    have zg := lt_of_block BX7.out
    go_wp2_with fail
    refine (K7.out _ _ _ SH7.out).mono ?_
    rintro e w8 ⟨S8, M, rfl, own8, hM4, hM5, hb8⟩
    have B8 := B7.trans (hb8.mono (by omega))
    have hMe := HTURN.out L M hL4.out hM4.out hL5.out hM5.out
    subst hMe
    have OWN8 := Lib.hid (OWN7.out.keep hb8)
    have MT8 := Lib.hid (MT7.out.keep hb8)
    have OWM8 := Lib.hid own8
    clear q0 q1 z7 sg H7 B7 p0 p1 zg own8 OWN7 MT7 SH7 BX7 hb8 hM5 hM4
    obtain ⟨q0, q1, z8, sg, H8⟩ := HK.out _ B8
    have zw8 : w.heap.size < w8.heap.size := by omega
    have H8' := Lib.hid H8
    have B8' := Lib.hid B8
    clear sg H8 B8
    go_upto_region 12 with fail
    go_quiet ((go_at_call 19; first | (with_reducible exact Calls.quiet_of_same (K3.out _)) | (with_reducible exact Calls.quiet_of_same (K4.out _))))
    have H9 := Lib.hid (below_drewN H8'.out nq)
    have own9 := OWN8.out.drewN nq
    have owm9 := OWM8.out.drewN nq
    have mt9 := MT8.out.drewN nq
    have keq := fun (W : World) B B' h h' => equal_int' (some ⟨S4, 0, none⟩) (some ⟨S8, 0, none⟩) n n n n M M B B' W h h' hL4.out hL4.out (by omega) true (by simp)
    have keq9 := fun (k : Nat) => keq ((w8.drewN nq).drewN k) _ _ (own9.drewN k).sl.2 (owm9.drewN k).sl.2
    have KEQ := Lib.hid keq9
    have hxy := HSAME.out M hL5.out
    generalize w8.drewN nq = w9 at *
    obtain ⟨l1, _⟩ := own_at1 hL4.out own9 hi2
    obtain ⟨l2, _⟩ := own_at1 hL4.out own9 hj2
    have g1 := mt9.head (v := i1) hi2
    have g2 := mt9.head (v := j1) hj2
    obtain ⟨c1, _⟩ := mt9.cell (v := i1) (j := j1) hi2 hj2
    obtain ⟨c2, _⟩ := mt9.cell (v := j1) (j := i1) hj2 hi2
    change _ = some (FloydReach.q (FloydReach.reach n l i1 j1)) at c1
    change _ = some (FloydReach.q (FloydReach.reach n l j1 i1)) at c2
    change (M.getD i1 0 == M.getD j1 0) = (FloydReach.reach n l i1 j1 && FloydReach.reach n l j1 i1) at hxy
    generalize FloydReach.reach n l i1 j1 = x at *
    generalize FloydReach.reach n l j1 i1 = y at *
    generalize M.getD i1 0 = a1 at *
    generalize M.getD j1 0 = a2 at *
    unfold FloydReach.q at c1 c2
    have hi3 : (i1 : Int) < (n : Int) := by omega
    have hj3 : (j1 : Int) < (n : Int) := by omega
    clear own9 owm9 mt9 keq keq9 OWN8 OWM8 MT8 hL4 hL5 q0 q1 H8' B8' zw8 z8
    cases x
    · simp only [Bool.false_and] at hxy
      go_upto_region 13 with fail
      go_quiet ((go_at_call 16; exact Calls.quiet_of (KEQ.out _)))
      go_wp2
      go_ret
      exact ⟨rfl, below_drewN H9.out _⟩
    · simp only [Bool.true_and] at hxy
      have hyy : (y == y) = true := by simp
      go_upto_region 13 with fail
      go_quiet ((go_at_call 16; exact Calls.quiet_of (KEQ.out _)))
      go_wp2
      go_ret
      exact ⟨rfl, below_drewN H9.out _⟩
  · have k5 := fun W h => of_no N A c l W h hll (fun h => hg (chk_zero.1 h))
    have hne : (chk N l != 0) = true := by rw [bne_iff_ne]; exact fun h => hg (chk_zero.1 h)
    generalize chk N l = er at *
    have K5 := Lib.hid k5
    clear k5 hg
    go_enter Try.func3, Try.ntmps3
    go_wp2_with fail
    refine (KEY0.out _ _ (sl_new' (by decide) (w.alloc (.cells #[.int .i64 N, .slice A l.length c] 24)) #[.int .i64 1, .int .i64 2, .int .i64 0, .int .i64 2, .int .i64 1, .int .i64 0] 30 _ (by simp) rfl)).mono ?_
    rintro e w2 ⟨S2, rfl, own2, hb2⟩
    have B2 : Below (w.heap.size + 1) (w.alloc (.cells #[.int .i64 N, .slice A l.length c] 24)) w2 := ((Below.refl _ _).alloc (by simp) (.cells #[.int .i64 1, .int .i64 2, .int .i64 0, .int .i64 2, .int .i64 1, .int .i64 0] 30)).trans (hb2.mono (by simp))
    have Z2 : w.heap.size + 1 ≤ w2.heap.size := by have := B2.size; simpa using this
    clear hb2
    go_wp2_with fail
    refine (KEY1.out _ _ _ _ _ _ _ (own2.alloc _).sl.2 (sl_new' (by decide) w2 #[.int .i64 0, .int .i64 1, .int .i64 1] _ _ rfl rfl)).mono ?_
    rintro e w3 ⟨rfl, n3, rfl⟩
    have B3 := below_drewN (B2.alloc Z2 (.cells #[.int .i64 0, .int .i64 1, .int .i64 1] 3)) n3
    generalize ((w2.alloc (.cells #[.int .i64 0, .int .i64 1, .int .i64 1] 3)).drewN n3) = w3 at B3 ⊢
    clear own2 B2 Z2
    have hkeep : ∀ wx, Below (w.heap.size + 1) (w.alloc (.cells #[.int .i64 N, .slice A l.length c] 24)) wx → wx.cell? ⟨w.heap.size, 0, none⟩ = some (.int .i64 N) ∧ wx.cell? ⟨w.heap.size, 1, none⟩ = some (.slice A l.length c) ∧ w.heap.size + 1 ≤ wx.heap.size ∧ Sl wx wx.heap.size 3 ce A l ∧ Below w.heap.size w wx := fun wx hx => by
      have hX0 := hw0.trans (hx.mono (Nat.le_succ _))
      have hzx : w.heap.size + 1 ≤ wx.heap.size := by have := hx.size; simpa using this
      obtain ⟨c1, _⟩ := keepAt hx (Nat.lt_succ_self _)
      exact ⟨(c1 0).trans (by simp), (c1 1).trans (by simp), hzx, (hs.keep hX0 (Nat.le_refl _)).more (by omega), hX0⟩
    have HK := Lib.hid hkeep
    clear hkeep
    obtain ⟨q0, q1, z3, _, H3⟩ := HK.out _ B3
    go_wp2_with fail
    refine (K5.out _ ((hs.keep H3 (Nat.le_refl _)).more (by omega))).mono ?_
    rintro e w4 ⟨rfl, hb4⟩
    have H4 := H3.trans (hb4.mono (by omega))
    clear hb4 B3 H3 z3 q0 q1
    go_wp2
    go_ret
    exact ⟨rfl, H4⟩

theorem own : ownKnob Try.prog.godebug = none := by kernel_rfl
theorem laidOut : laidOutB Try.prog = true := by kernel_rfl

set_option maxRecDepth 100000 in
theorem lifted (os : Os) (started : os.Started) (H : Type) (enc : TypeId × Value → H) :
    ReturnsInHanded {} Try.checked os 3 .any (Rows.compLeadsSpec.pre6 enc Try.prog Try.f3 Rows.compLeadsRow.domain false) (Rows.compLeadsSpec.post enc Try.prog Try.f3 false true false false) := by
  refine returnsInHanded_of_change (C := Try.checked) own started (by kernel_rfl) Try.func3
    (ChangeSpec.witness6 (enc := enc) (C := Try.checked) false ⟨#[], #[.agg #[.int .i64 0, .slice none 0 0], .int .i64 0, .int .i64 0], []⟩ 8 (by kernel_rfl) (by kernel_rfl) (by kernel_rfl) (by kernel_rfl)) ?_
  intro W base args ds gs before hval0 hW hcnd _
  have hval : ∀ (j : Nat) t v, Try.f3.params[j]? = some t → args[j]? = some v → Value.okWide Try.prog W .any base t v := hval0
  have hW' := hW
  obtain ⟨p, q, hA0, hV, rfl, hfz, hnd⟩ := hW
  have hA : DataW.TrodAll enc Try.prog W 0 (fun _ => true) true Try.f3.params.toList args.toList ds p := hA0
  rw [Try.params3] at hA hval
  obtain ⟨v0, vs0, d0, ds0, p0, q0, hargs, rfl, rfl, h0, r0⟩ := trodAll_cons hA
  obtain ⟨v1, vs1, d1, ds1, p1, q1, rfl, rfl, rfl, h1, r1⟩ := trodAll_cons r0
  obtain ⟨v2, vs2, d2, ds2, p2, q2, rfl, rfl, rfl, h2, r2⟩ := trodAll_cons r1
  obtain ⟨rfl, rfl, rfl⟩ := trodAll_nil r2
  obtain rfl : args = #[v0, v1, v2] := by cases args; simp_all
  obtain ⟨rfl, rfl⟩ := trodVars_none hV
  obtain ⟨N0, A0, c0, l0, dd0, rfl, hN0, hG0, hb0, rfl, hd0⟩ := open_net Try.underlying24 (by kernel_rfl) (by kernel_rfl) Try.underlying3 Try.underlying22 Try.underlying30 (by kernel_rfl) (by kernel_rfl) Try.underlying3 Try.underlying3 Try.underlying3 (hval 0 24 v0 rfl rfl) h0
  obtain ⟨a1, rfl, rfl, rfl, wa1⟩ := open_int Try.underlying3 (hval 1 3 v1 rfl rfl) h1
  obtain ⟨a2, rfl, rfl, rfl, wa2⟩ := open_int Try.underlying3 (hval 2 3 v2 rfl rfl) h2
  refine (walk W N0 A0 c0 l0 hG0 a1 (wf_bd wa1) a2 (wf_bd wa2)).mono fun e W' ⟨he, hB⟩ => ?_
  subst he
  exact ⟨_, rfl, post_of_law laidOut rfl Try.underlying4 rfl (by intro t ht; rw [Try.params3] at ht; simp at ht; rcases ht with rfl | rfl | rfl <;> exact ⟨by kernel_rfl, of_decide_eq_true (by kernel_rfl)⟩) hW' rfl hB⟩

theorem holds : Rows.CompLeadsSaid :=
  OpenClaim.holds_of_wide 3 Try.f3 rfl rfl rfl rfl rfl rfl rfl ⟨rfl, rfl, rfl, rfl, rfl⟩ rfl rfl rfl rfl rfl (by kernel_rfl) Try.func3 (by kernel_rfl)
    (of_decide_eq_true (by kernel_rfl)) (by unfold Func.isWrapper; first | (rw [if_pos (by decide +kernel)]; kernel_rfl) | (rw [if_neg (by decide +kernel)]; exact ⟨rfl, rfl⟩))
    (fun os started H enc _ => lifted os started H enc)
#print axioms holds
end Go.Proofs.Ytjhnlkmdkjlkdaa.CompLeadsLaw
