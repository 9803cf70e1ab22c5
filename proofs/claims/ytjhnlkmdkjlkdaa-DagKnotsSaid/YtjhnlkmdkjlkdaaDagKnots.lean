/- For every net: DagKnots answers true (there is an order just if each place is a knot by itself, and has no edge to itself; then it is the order of the knots), and the arguments read as before. No condition. -/
import Derived.Test.YtjhnlkmdkjlkdaaRows
import Derived.Test.YtjhnlkmdkjlkdaaOpen
import Derived.Test.YtjhnlkmdkjlkdaaKnotsLaw
import Derived.Test.YtjhnlkmdkjlkdaaDagOrderG
import Derived.Test.YtjhnlkmdkjlkdaaCfnKnots
import Derived.IntWalk
namespace Go.Proofs.Ytjhnlkmdkjlkdaa.DagKnotsLaw
open Go.ChangeShapes Go.WideShapes Go.ChangeAt Go.RowKit Go.Proofs.Ytjhnlkmdkjlkdaa NetLaw BellLaw CompLaw CompOrd KnotsLaw Go.Proofs.Ytjhnlkmdkjlkdaa.Net Go.Proofs.Ytjhnlkmdkjlkdaa.Std Go.Proofs.Ytjhnlkmdkjlkdaa.Comp Go.Proofs.Ytjhnlkmdkjlkdaa.CompO
set_option linter.unusedSimpArgs false
set_option linter.unusedVariables false
theorem loop_good : NetLaw.Good 1 [(0, 0, 0)] := chk_zero.1 (by decide +kernel)
theorem dag_loop (W : World) (g : Nat) (h : Sl W W.heap.size 3 ce (some ⟨g, 0, none⟩) [(0, 0, 0)]) :
    Calls Try.prog 24 #[.agg #[.int .i64 1, .slice (some ⟨g, 0, none⟩) 1 1]] W fun e w' => e = .returned (.tuple #[.slice none 0 0, .int .i64 6]) ∧ Below W.heap.size W w' := by
  refine (DagG.order_gr 1 (some ⟨g, 0, none⟩) 1 [(0, 0, 0)] W h loop_good).mono ?_
  rintro e w' ⟨⟨h1, _⟩ | ⟨Ao, co, out, _, _, h2, h3⟩, h4⟩
  · exact ⟨h1, h4⟩
  · have := loop_no h2
    omega
/-- the closure -/
theorem fn_any (C : List Int) (n : Nat) (l : List E) (g S : Nat) (w : World) (hC : C.length = n) (hends : ∀ e ∈ l, 0 ≤ e.1 ∧ e.1 < n ∧ 0 ≤ e.2.1 ∧ e.2.1 < n) (hb : w.heap[g]? = some (.cells #[.slice (some ⟨S, 0, none⟩) n n] 25 (0, 0))) (ho : Own w 0 3 1 ci (.slice (some ⟨S, 0, none⟩) n n) C) : CfnKnots.Ok g l (PK C) w := by
  intro W hW k hk f t co he
  have hen := hends _ (List.getElem_mem hk)
  rw [he] at hen
  obtain ⟨f0, f1, t0, t1⟩ := hen
  simp only at f0 f1 t0 t1
  obtain ⟨t, rfl⟩ := Int.eq_ofNat_of_zero_le t0
  obtain ⟨f, rfl⟩ := Int.eq_ofNat_of_zero_le f0
  have htn : t < n := by omega
  have hfn : f < n := by omega
  have hgl := lt_of_block hb
  have hbW := blk_below hb hW hgl
  have hoW := ho.keep hW
  have hv : PK C ((f : Int), (t : Int), co) = (C.getD f 0 == C.getD t 0) := by unfold PK dg; simp only [Int.toNat_natCast]
  rw [hv]
  have hk1 : Below W.heap.size W (W.alloc (.cells #[.int .i64 f, .int .i64 t, .int .i64 co] 30)) := (Below.refl _ _).alloc (Nat.le_refl _) _
  have hb1 := blk_below hbW hk1 (lt_of_block hbW)
  have ho1 := hoW.keep hk1
  have q0 := blk_cell hb1 0
  simp only [List.getElem?_toArray, List.getElem?_cons_zero, List.getElem?_cons_succ] at q0
  obtain ⟨of0, _⟩ := own_at1 hC ho1 hfn
  obtain ⟨of1, _⟩ := own_at1 hC ho1 htn
  have hft3 : (f : Int) < (n : Int) := by omega
  have htt3 : (t : Int) < (n : Int) := by omega
  have hgW := lt_of_block hbW
  have hSW := (hoW.base_ S rfl).2
  have HK1 := Lib.hid hk1
  generalize C.getD f 0 = x at *
  generalize C.getD t 0 = y at *
  clear hb hbW hoW hb1 ho1 ho hk1 hv he t0 f0 hW hgl
  go_enter Try.func26, Try.ntmps26
  go_upto_region 1 with fail
  go_region
  all_goals
    go_wp2
    go_ret
    exact ⟨rfl, below_drewN HK1.out 1⟩
set_option maxRecDepth 100000 in
set_option maxHeartbeats 4000000 in
theorem walk (w : World) (N : Int) (A : Option Addr) (c : Nat) (l : List E) (hA : Arg w 3 ce A c l) :
    Calls Try.prog 5 #[.agg #[.int .i64 N, .slice A l.length c]] w fun e w' => e = .returned (.bool true) ∧ Below w.heap.size w w' := by
  have hs := hA.sl
  have hll : l.length ≤ 9223372036854775807 := Nat.le_trans hA.cap hA.max
  clear hA
  have hw0 : Below w.heap.size w (w.alloc (.cells #[.int .i64 N, .slice A l.length c] 24)) := (Below.refl _ _).alloc (Nat.le_refl _) _
  have key0 := fun W g h => dag_loop W g h
  have KEY0 := Lib.hid key0
  clear key0
  by_cases hg : NetLaw.Good N l
  · have hN1 := hg.lo
    have hN2 := hg.hi
    have hl6 := hg.len
    have hends := hg.ends
    obtain ⟨n, rfl⟩ := Int.eq_ofNat_of_zero_le (show 0 ≤ N by omega)
    have k4 := fun W h => DagG.order_gr n A c l W h hg
    have k5 := fun W h => of_yes n A c l W h hg
    have k6 := fun W h => order_yes n A c l W h hg
    have hone := fun (L M : List Int) (h1 : L.length = n) (h2 : M.length = n) (h3 : ∀ v : Nat, v < n → Lst l v (L.getD v 0)) (h4 : ∀ v : Nat, v < n → Lst l v (M.getD v 0)) => lst_one h1 h2 h3 h4
    have hkn := fun (C o o' : List Int) (hC : C.length = n) (h : ∀ v : Nat, v < n → Lst l v (C.getD v 0)) (ho : Od (fun _ => True) n (PE l) o) (ho' : Od (fun v => cmf C v = v) n (fun u v => ∃ e ∈ cl (cmf C) l, e.1 = u ∧ e.2.1 = v) o') => knots hends hC h ho ho'
    have K4 := Lib.hid k4
    have K5 := Lib.hid k5
    have K6 := Lib.hid k6
    have HONE := Lib.hid hone
    have HKN := Lib.hid hkn
    have HE := Lib.hid hends
    clear k4 k5 k6 hg hone hkn hends
    go_enter Try.func5, Try.ntmps5
    go_wp2_with fail
    refine (KEY0.out _ _ (sl_new' (by decide) (w.alloc (.cells #[.int .i64 n, .slice A l.length c] 24)) #[.int .i64 0, .int .i64 0, .int .i64 0] 30 _ (by simp) rfl)).mono ?_
    rintro e w3 ⟨rfl, hb3⟩
    have B3 : Below (w.heap.size + 1) (w.alloc (.cells #[.int .i64 n, .slice A l.length c] 24)) w3 := ((Below.refl _ _).alloc (by simp) (.cells #[.int .i64 0, .int .i64 0, .int .i64 0] 30)).trans (hb3.mono (by simp))
    clear hb3
    have hkeep : ∀ wx, Below (w.heap.size + 1) (w.alloc (.cells #[.int .i64 n, .slice A l.length c] 24)) wx → wx.cell? ⟨w.heap.size, 0, none⟩ = some (.int .i64 n) ∧ wx.cell? ⟨w.heap.size, 1, none⟩ = some (.slice A l.length c) ∧ w.heap.size + 1 ≤ wx.heap.size ∧ Sl wx wx.heap.size 3 ce A l ∧ Below w.heap.size w wx := fun wx hx => by
      have hX0 := hw0.trans (hx.mono (Nat.le_succ _))
      have hzx : w.heap.size + 1 ≤ wx.heap.size := by have := hx.size; simpa using this
      obtain ⟨c1, _⟩ := keepAt hx (Nat.lt_succ_self _)
      exact ⟨(c1 0).trans (by simp), (c1 1).trans (by simp), hzx, (hs.keep hX0 (Nat.le_refl _)).more (by omega), hX0⟩
    have HK := Lib.hid hkeep
    clear hkeep hw0 hs
    obtain ⟨q0, q1, z3, sg, H3⟩ := HK.out _ B3
    go_wp2_with fail
    refine (K4.out _ sg).mono ?_
    rintro e w4 ⟨hcase, hb4⟩
    have B4 := B3.trans (hb4.mono (by omega))
    have hcs : ∃ Ad nd cd ex out, e = .returned (.tuple #[.slice Ad nd cd, .int .i64 ex]) ∧ Hid (Od (fun _ => True) n (PE l) out) ∧ ((ex = 6 ∧ Hid (out.length < n)) ∨ (ex = 0 ∧ nd = n ∧ Hid (out.length = n) ∧ Own w4 w3.heap.size 3 1 ci (.slice Ad n cd) out)) := by
      rcases hcase with ⟨h1, out, h2, h3⟩ | ⟨Ad, cd, out, h1, h2, h3, h4⟩
      · exact ⟨none, 0, 0, 6, out, h1, Lib.hid h2, .inl ⟨rfl, Lib.hid h3⟩⟩
      · exact ⟨Ad, n, cd, 0, out, h1, Lib.hid h3, .inr ⟨rfl, rfl, Lib.hid h4, h2⟩⟩
    obtain ⟨Ad, nd, cd, ex, out, rfl, HOD, hcs⟩ := hcs
    have HCS := Lib.hid hcs
    clear q0 q1 B3 H3 z3 sg hcase hcs
    obtain ⟨q0, q1, z4, sg, H4⟩ := HK.out _ B4
    go_wp2_with fail
    refine (K5.out _ sg).mono ?_
    rintro e w5 ⟨S5, C, rfl, own5, hC5, hC6, hb5⟩
    have B5 := B4.trans (hb5.mono (by omega))
    clear q0 q1 z4 sg H4 B4
    obtain ⟨q0, q1, z5, sg, H5⟩ := HK.out _ B5
    have B6 := B5.alloc z5 (.cells #[.slice (some ⟨S5, 0, none⟩) n n] 25)
    have hk5 : Below w5.heap.size w5 (w5.alloc (.cells #[.slice (some ⟨S5, 0, none⟩) n n] 25)) := (Below.refl _ _).alloc (Nat.le_refl _) _
    have BX := Lib.hid (heap_alloc_new w5 (.cells #[.slice (some ⟨S5, 0, none⟩) n n] 25))
    have OWN6 := Lib.hid ((own5.keep hk5).mono (Nat.zero_le _))
    have h45 := hb5.size
    have hzl : w.heap.size < w5.heap.size := by omega
    have HD6 := Lib.hid (fun (o : Own w4 w3.heap.size 3 1 ci (.slice Ad n cd) out) => (o.keep hb5).keep hk5)
    clear q0 q1 z5 sg H5 B5 own5 hk5 hb5 hb4
    go_upto_region 6 with fail
    obtain ⟨gB, hgB⟩ : ∃ gB, gB = w5.heap.size := ⟨_, rfl⟩
    rw [← hgB] at BX hzl ⊢
    generalize w5.alloc (.cells #[.slice (some ⟨S5, 0, none⟩) n n] 25) = w6 at B6 BX OWN6 HD6 ⊢
    clear hgB
    obtain ⟨q0, q1, z6, sg, H6⟩ := HK.out _ B6
    go_wp2_with fail
    refine (K6.out _ sg).mono ?_
    rintro e w7 ⟨Ao, co, mo, o', C', rfl, own7, hmo, hC7, hC8, hod', hb7⟩
    have hcc := HONE.out C C' hC5.out hC7.out hC6.out hC8.out
    subst hcc
    have hkn := HKN.out C' out o' hC5.out hC6.out HOD.out hod'.out
    have B7 := B6.trans (hb7.mono (by omega))
    have hbx7 := blk_below BX.out hb7 (lt_of_block BX.out)
    have own7b := OWN6.out.keep hb7
    have hok := fn_any C' n l gB S5 w7 hC5.out HE.out hbx7 own7b
    have HOK := Lib.hid hok
    have HD7 := Lib.hid (fun o => (HD6.out o).keep hb7)
    have OWNO := Lib.hid own7
    have HKN2 := Lib.hid hkn
    clear q0 q1 z6 sg H6 B6 own7 own7b hbx7 BX OWN6 HD6 hb7 hok hkn HOD hod' hC5 hC6 hC7 hC8
    obtain ⟨q0, q1, z7, sg, H7⟩ := HK.out _ B7
    have hlout : o'.length = mo := hmo.out
    rcases HCS.out with ⟨rfl, hlt⟩ | ⟨rfl, rfl, hln, hown⟩
    · have kc := CfnKnots.contains_fn gB A c l (PK C') w7 sg hll HOK.out true (HKN2.out.2 hlt.out)
      unfold CfnKnots.fnv at kc
      have KC := Lib.hid kc
      clear kc HCS hlout
      go_wp2_with fail
      refine KC.out.mono ?_
      rintro e w8 ⟨rfl, hb8⟩
      have H8 := H7.trans (hb8.mono H7.size)
      clear q0 q1 z7 sg H7 hb8
      go_wp2
      go_ret
      exact ⟨rfl, H8⟩
    · obtain ⟨hany, hoo⟩ := HKN2.out.1 hln.out
      have kc := CfnKnots.contains_fn gB A c l (PK C') w7 sg hll HOK.out false hany
      unfold CfnKnots.fnv at kc
      have KC := Lib.hid kc
      have hd7 := HD7.out hown
      subst hoo
      have hmn : mo = nd := by have := hln.out; omega
      subst hmn
      have HD8 := Lib.hid hd7
      have HLN := Lib.hid hln.out
      clear kc HCS hany hd7 hlout hln hown HD7
      go_wp2_with fail
      refine KC.out.mono ?_
      rintro e w8 ⟨rfl, hb8⟩
      have H8 := H7.trans (hb8.mono H7.size)
      have keq := equal_int' Ad Ao mo mo cd co out out _ _ w8 (HD8.out.keep hb8).sl.2 (OWNO.out.keep hb8).sl.2 HLN.out HLN.out (by omega) true (by simp)
      have KEQ := Lib.hid keq
      clear q0 q1 z7 sg H7 hb8 keq
      go_wp2_with fail
      refine KEQ.out.mono ?_
      rintro e w9 ⟨rfl, n9, rfl⟩
      go_wp2
      go_ret
      exact ⟨rfl, below_drewN H8 n9⟩
  · have k4 := fun W h => Dag.order_no N A c l W h hll (fun h => hg (chk_zero.1 h))
    have k5 := fun W h => of_no N A c l W h hll (fun h => hg (chk_zero.1 h))
    have k6 := fun W h => order_no N A c l W h hll (fun h => hg (chk_zero.1 h))
    have hne : (chk N l != 0) = true := by rw [bne_iff_ne]; exact fun h => hg (chk_zero.1 h)
    generalize chk N l = er at *
    have hee : (er == er) = true := by simp
    have K4 := Lib.hid k4
    have K5 := Lib.hid k5
    have K6 := Lib.hid k6
    clear k4 k5 k6 hg
    go_enter Try.func5, Try.ntmps5
    go_wp2_with fail
    refine (KEY0.out _ _ (sl_new' (by decide) (w.alloc (.cells #[.int .i64 N, .slice A l.length c] 24)) #[.int .i64 0, .int .i64 0, .int .i64 0] 30 _ (by simp) rfl)).mono ?_
    rintro e w3 ⟨rfl, hb3⟩
    have B3 : Below (w.heap.size + 1) (w.alloc (.cells #[.int .i64 N, .slice A l.length c] 24)) w3 := ((Below.refl _ _).alloc (by simp) (.cells #[.int .i64 0, .int .i64 0, .int .i64 0] 30)).trans (hb3.mono (by simp))
    clear hb3
    have hkeep : ∀ wx, Below (w.heap.size + 1) (w.alloc (.cells #[.int .i64 N, .slice A l.length c] 24)) wx → wx.cell? ⟨w.heap.size, 0, none⟩ = some (.int .i64 N) ∧ wx.cell? ⟨w.heap.size, 1, none⟩ = some (.slice A l.length c) ∧ w.heap.size + 1 ≤ wx.heap.size ∧ Sl wx wx.heap.size 3 ce A l ∧ Below w.heap.size w wx := fun wx hx => by
      have hX0 := hw0.trans (hx.mono (Nat.le_succ _))
      have hzx : w.heap.size + 1 ≤ wx.heap.size := by have := hx.size; simpa using this
      obtain ⟨c1, _⟩ := keepAt hx (Nat.lt_succ_self _)
      exact ⟨(c1 0).trans (by simp), (c1 1).trans (by simp), hzx, (hs.keep hX0 (Nat.le_refl _)).more (by omega), hX0⟩
    have HK := Lib.hid hkeep
    clear hkeep hw0 hs
    obtain ⟨q0, q1, z3, sg, H3⟩ := HK.out _ B3
    go_wp2_with fail
    refine (K4.out _ sg).mono ?_
    rintro e w4 ⟨rfl, hb4⟩
    have B4 := B3.trans (hb4.mono (by omega))
    clear q0 q1 B3 H3 z3 sg hb4
    obtain ⟨q0, q1, z4, sg, H4⟩ := HK.out _ B4
    go_wp2_with fail
    refine (K5.out _ sg).mono ?_
    rintro e w5 ⟨rfl, hb5⟩
    have B5 := (B4.trans (hb5.mono (by omega))).alloc (by have := hb5.size; omega) (.cells #[.slice none 0 0] 25)
    have hz5 : w.heap.size < w5.heap.size := by have := hb5.size; omega
    clear q0 q1 z4 sg H4 hb5 B4
    obtain ⟨q0, q1, z5, sg, H5⟩ := HK.out _ B5
    go_wp2_with fail
    refine (K6.out _ sg).mono ?_
    rintro e w6 ⟨rfl, hb6⟩
    have H6 := H5.trans (hb6.mono H5.size)
    clear hb6 B5 H5 z5 q0 q1 sg
    go_wp2
    go_ret
    exact ⟨rfl, H6⟩

theorem own : ownKnob Try.prog.godebug = none := by kernel_rfl
theorem laidOut : laidOutB Try.prog = true := by kernel_rfl

set_option maxRecDepth 100000 in
theorem lifted (os : Os) (started : os.Started) (H : Type) (enc : TypeId × Value → H) :
    ReturnsInHanded {} Try.checked os 5 .any (Rows.dagKnotsSpec.pre6 enc Try.prog Try.f5 Rows.dagKnotsRow.domain false) (Rows.dagKnotsSpec.post enc Try.prog Try.f5 false true false false) := by
  refine returnsInHanded_of_change (C := Try.checked) own started (by kernel_rfl) Try.func5
    (ChangeSpec.witness6 (enc := enc) (C := Try.checked) false ⟨#[], #[.agg #[.int .i64 0, .slice none 0 0]], []⟩ 8 (by kernel_rfl) (by kernel_rfl) (by kernel_rfl) (by kernel_rfl)) ?_
  intro W base args ds gs before hval0 hW hcnd _
  have hval : ∀ (j : Nat) t v, Try.f5.params[j]? = some t → args[j]? = some v → Value.okWide Try.prog W .any base t v := hval0
  have hW' := hW
  obtain ⟨p, q, hA0, hV, rfl, hfz, hnd⟩ := hW
  have hA : DataW.TrodAll enc Try.prog W 0 (fun _ => true) true Try.f5.params.toList args.toList ds p := hA0
  rw [Try.params5] at hA hval
  obtain ⟨v0, vs0, d0, ds0, p0, q0, hargs, rfl, rfl, h0, r0⟩ := trodAll_cons hA
  obtain ⟨rfl, rfl, rfl⟩ := trodAll_nil r0
  obtain rfl : args = #[v0] := by cases args; simp_all
  obtain ⟨rfl, rfl⟩ := trodVars_none hV
  obtain ⟨N0, A0, c0, l0, dd0, rfl, hN0, hG0, hb0, rfl, hd0⟩ := open_net Try.underlying24 (by kernel_rfl) (by kernel_rfl) Try.underlying3 Try.underlying22 Try.underlying30 (by kernel_rfl) (by kernel_rfl) Try.underlying3 Try.underlying3 Try.underlying3 (hval 0 24 v0 rfl rfl) h0
  refine (walk W N0 A0 c0 l0 hG0).mono fun e W' ⟨he, hB⟩ => ?_
  subst he
  exact ⟨_, rfl, post_of_law laidOut rfl Try.underlying4 rfl (by intro t ht; rw [Try.params5] at ht; simp at ht; subst ht <;> exact ⟨by kernel_rfl, of_decide_eq_true (by kernel_rfl)⟩) hW' rfl hB⟩

theorem holds : Rows.DagKnotsSaid :=
  OpenClaim.holds_of_wide 5 Try.f5 rfl rfl rfl rfl rfl rfl rfl ⟨rfl, rfl, rfl, rfl, rfl⟩ rfl rfl rfl rfl rfl (by kernel_rfl) Try.func5 (by kernel_rfl)
    (of_decide_eq_true (by kernel_rfl)) (by unfold Func.isWrapper; first | (rw [if_pos (by decide +kernel)]; kernel_rfl) | (rw [if_neg (by decide +kernel)]; exact ⟨rfl, rfl⟩))
    (fun os started H enc _ => lifted os started H enc)
#print axioms holds
end Go.Proofs.Ytjhnlkmdkjlkdaa.DagKnotsLaw
