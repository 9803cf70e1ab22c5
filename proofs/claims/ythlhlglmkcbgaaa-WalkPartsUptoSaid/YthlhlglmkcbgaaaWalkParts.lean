/- For every net and two walks, of bulk at most 1048576 together: WalkParts answers true (a walk that is joined of two costs what both cost), and the arguments read as before. -/
import Derived.Test.YthlhlglmkcbgaaaRows
import Derived.Test.YthlhlglmkcbgaaaBulk
import Derived.Test.YthlhlglmkcbgaaaWalkCost
import Derived.Test.YthlhlglmkcbgaaaWalkJoin
import Derived.JoinedCond
namespace Go.Proofs.Ythlhlglmkcbgaaa.WalkPartsLaw
open Go.ChangeShapes Go.WideShapes Go.ChangeAt Go.RowKit Go.Proofs.Ythlhlglmkcbgaaa NetLaw WalkLaw Go.Proofs.Ythlhlglmkcbgaaa.Walk
set_option linter.unusedSimpArgs false
set_option linter.unusedVariables false

theorem fit_form {a b : List Int} (h : fit a b) : ∃ a' x b', a = a' ++ [x] ∧ b = x :: b' := by
  obtain ⟨h1, h2, h3⟩ := h
  match b, h2, h3 with
  | x :: b', _, h3 =>
    refine ⟨a.dropLast, x, b', ?_, rfl⟩
    rw [List.head?_cons, List.getLast?_eq_some_getLast h1] at h3
    injection h3 with h3
    rw [← h3, List.dropLast_concat_getLast]

set_option maxRecDepth 100000 in
set_option maxHeartbeats 600000 in
theorem walk (w : World) (N : Int) (A : Option Addr) (c : Nat) (l : List E) (hA : Arg w 3 ce A c l) (A1 : Option Addr) (c1 : Nat) (a : List Int) (hA1 : Arg w 1 ci A1 c1 a) (A2 : Option Addr) (c2 : Nat) (b : List Int) (hA2 : Arg w 1 ci A2 c2 b)
    (hbulk : l.length + a.length + b.length ≤ 1048576) :
    Calls Try.prog 9 #[.agg #[.int .i64 N, .slice A l.length c], .slice A1 a.length c1, .slice A2 b.length c2] w fun e w' => e = .returned (.bool true) ∧ Below w.heap.size w w' := by
  have hs := hA.sl
  have ha := hA1.sl
  have hb := hA2.sl
  have hbc := hA2.cap
  clear hA hA1 hA2
  have key0 : Calls Try.prog 33 #[.agg #[.int .i64 2, .slice (some ⟨w.heap.size + 1, 0, none⟩) 2 2], .slice (some ⟨w.heap.size + 1 + 1, 0, none⟩) 2 2]
      (((w.alloc (.cells #[.int .i64 N, .slice A l.length c] 57)).alloc (.cells #[.int .i64 0, .int .i64 1, .int .i64 5, .int .i64 0, .int .i64 1, .int .i64 4] 60)).alloc (.cells #[.int .i64 0, .int .i64 1] 3))
      fun e w' => e = .returned (.tuple #[.int .i64 4, .int .i64 0]) ∧ Below (w.heap.size + 1 + 1 + 1) (((w.alloc (.cells #[.int .i64 N, .slice A l.length c] 57)).alloc (.cells #[.int .i64 0, .int .i64 1, .int .i64 5, .int .i64 0, .int .i64 1, .int .i64 4] 60)).alloc (.cells #[.int .i64 0, .int .i64 1] 3)) w' := by
    have z0 : (w.alloc (.cells #[.int .i64 N, .slice A l.length c] 57)).heap.size = w.heap.size + 1 := by simp
    generalize w.alloc (.cells #[.int .i64 N, .slice A l.length c] 57) = W0 at z0 ⊢
    have z1 : (W0.alloc (.cells #[.int .i64 0, .int .i64 1, .int .i64 5, .int .i64 0, .int .i64 1, .int .i64 4] 60)).heap.size = w.heap.size + 1 + 1 := by simp [z0]
    have s1 := sl_new (cell := ce) (sz := 3) (by decide) W0 #[.int .i64 0, .int .i64 1, .int .i64 5, .int .i64 0, .int .i64 1, .int .i64 4] 60 [(0, 1, 5), (0, 1, 4)] rfl
    rw [z0, z1] at s1
    generalize W0.alloc (.cells #[.int .i64 0, .int .i64 1, .int .i64 5, .int .i64 0, .int .i64 1, .int .i64 4] 60) = W1 at z1 s1 ⊢
    have z2 : (W1.alloc (.cells #[.int .i64 0, .int .i64 1] 3)).heap.size = w.heap.size + 1 + 1 + 1 := by simp [z1]
    have s2 := sl_new (cell := ci) (sz := 1) (by decide) W1 #[.int .i64 0, .int .i64 1] 3 [0, 1] rfl
    have s3 := s1.keep (w' := W1.alloc (.cells #[.int .i64 0, .int .i64 1] 3)) ((Below.refl _ _).alloc (Nat.le_refl _) _) (by omega)
    rw [z1] at s2
    generalize W1.alloc (.cells #[.int .i64 0, .int .i64 1] 3) = W2 at z2 s2 s3 ⊢
    have k := cost_any 2 (some ⟨w.heap.size + 1, 0, none⟩) 2 [(0, 1, 5), (0, 1, 4)] (some ⟨w.heap.size + 1 + 1, 0, none⟩) 2 [0, 1] W2 (s3.more (by omega)) s2 (by decide) (by decide)
    rw [show cost 2 [(0, 1, 5), (0, 1, 4)] [0, 1] = (4, 0) from by decide +kernel, z2] at k
    exact k
  have KEY0 := Lib.hid key0
  clear key0
  have hw0 : Below w.heap.size w (w.alloc (.cells #[.int .i64 N, .slice A l.length c] 57)) := (Below.refl _ _).alloc (Nat.le_refl _) _
  by_cases hfit : fit a b
  · obtain ⟨a', x, b', rfl, rfl⟩ := fit_form hfit
    have hlaw := fun h => cost_join (N := N) (l := l) a' x b' h
    have hlong := fun h => cost_long (N := N) (l := l) (p := a' ++ x :: b') h
    have hv := cost_val (N := N) (l := l) (p := a' ++ x :: b')
    have ej : (a' ++ [x]) ++ (x :: b').tail = a' ++ x :: b' := by simp
    have kj := fun W h1 h2 => join_yes A1 A2 c1 c2 (a' ++ [x]) (x :: b') W h1 h2 hbc (by omega) hfit
    rw [ej] at kj
    have KJ := Lib.hid kj
    have hjl : (a' ++ x :: b').length ≤ 9223372036854775807 := by simp only [List.length_append, List.length_cons, List.length_nil] at hbulk ⊢; omega
    have hal : (a' ++ [x]).length ≤ 9223372036854775807 := by omega
    have hbl : (x :: b').length ≤ 9223372036854775807 := by omega
    have hll : l.length ≤ 9223372036854775807 := by omega
    have k1 := fun W A' c' h1 h2 => cost_any N A c l A' c' (a' ++ [x]) W h1 h2 hll hal
    have k2 := fun W A' c' h1 h2 => cost_any N A c l A' c' (x :: b') W h1 h2 hll hbl
    have k3 := fun W A' c' h1 h2 => cost_any N A c l A' c' (a' ++ x :: b') W h1 h2 hll hjl
    have bd1 := cost_bd (N := N) (l := l) (p := a' ++ [x])
    have bd2 := cost_bd (N := N) (l := l) (p := x :: b')
    generalize (cost N l (a' ++ [x])).1 = n1 at *
    generalize (cost N l (a' ++ [x])).2 = e1 at *
    generalize (cost N l (x :: b')).1 = n2 at *
    generalize (cost N l (x :: b')).2 = e2 at *
    generalize (cost N l (a' ++ x :: b')).1 = n3 at *
    generalize (cost N l (a' ++ x :: b')).2 = e3 at *
    have K1 := Lib.hid k1
    have K2 := Lib.hid k2
    have K3 := Lib.hid k3
    have LAW := Lib.hid hlaw
    have LONG := Lib.hid hlong
    have HV := Lib.hid hv
    clear kj ej hjl hal hbl hll k1 k2 k3 hlaw hlong hv hfit
    generalize hal : (a' ++ [x]).length = na at *
    generalize hbl : (x :: b').length = nb at *
    generalize hjl : (a' ++ x :: b').length = nj at *
    generalize a' ++ [x] = la at *
    generalize x :: b' = lb at *
    have HJL := Lib.hid hjl
    clear hal hbl hjl
    go_enter Try.func9, Try.ntmps9
    go_wp2_with fail
    refine KEY0.out.mono ?_
    rintro e w1 ⟨rfl, hb1⟩
    have B1 : Below (w.heap.size + 1) (w.alloc (.cells #[.int .i64 N, .slice A l.length c] 57)) w1 := (((Below.refl _ _).alloc (by simp) _).alloc (by simp) _).trans (hb1.mono (by omega))
    have Z1 : w.heap.size + 1 ≤ w1.heap.size := by have := hb1.size; simp at this; omega
    have H1 : Below w.heap.size w w1 := hw0.trans (B1.mono (Nat.le_succ _))
    have ha1 := ha.keep H1 (Nat.le_refl _)
    have hb1' := hb.keep H1 (Nat.le_refl _)
    clear hb1
    go_wp2_with fail
    refine (KJ.out _ (ha1.more (by omega)) (hb1'.more (by omega))).mono ?_
    rintro e w2 ⟨A3, c3, he, hown, hb2⟩
    rw [HJL.out] at he hown
    subst he
    have B2 := B1.trans (hb2.mono Z1)
    have Z2 : w.heap.size + 1 ≤ w2.heap.size := by have := hb2.size; omega
    have z2 : w.heap.size < w2.heap.size := by omega
    have H2 : Below w.heap.size w w2 := hw0.trans (B2.mono (Nat.le_succ _))
    have sj := hown.sl.2
    obtain ⟨cc2, ff2⟩ := keepAt B2 (Nat.lt_succ_self _)
    clear hown hb2 ha1 hb1' Z1 B1 H1
    go_wp2_with fail
    refine (K1.out _ _ _ ((hs.keep H2 (Nat.le_refl _)).more (by omega)) ((ha.keep H2 (Nat.le_refl _)).more (by omega))).mono ?_
    rintro e w3 ⟨rfl, hb3⟩
    have B3 := B2.trans (hb3.mono Z2)
    have Z3 : w.heap.size + 1 ≤ w3.heap.size := by have := hb3.size; omega
    have z3 : w.heap.size < w3.heap.size := by omega
    have H3 : Below w.heap.size w w3 := hw0.trans (B3.mono (Nat.le_succ _))
    have sj3 := sj.keep hb3 (Nat.le_refl _)
    obtain ⟨cc3, ff3⟩ := keepAt B3 (Nat.lt_succ_self _)
    have zz3 : w2.heap.size ≤ w3.heap.size := hb3.size
    clear hb3 B2 H2 Z2 z2 cc2 ff2 sj
    go_wp2_with fail
    refine (K2.out _ _ _ ((hs.keep H3 (Nat.le_refl _)).more (by omega)) ((hb.keep H3 (Nat.le_refl _)).more (by omega))).mono ?_
    rintro e w4 ⟨rfl, hb4⟩
    have B4 := B3.trans (hb4.mono Z3)
    have Z4 : w.heap.size + 1 ≤ w4.heap.size := by have := hb4.size; omega
    have z4 : w.heap.size < w4.heap.size := by omega
    have H4 : Below w.heap.size w w4 := hw0.trans (B4.mono (Nat.le_succ _))
    have sj4 := sj3.keep hb4 zz3
    obtain ⟨cc4, ff4⟩ := keepAt B4 (Nat.lt_succ_self _)
    have zz4 : w2.heap.size ≤ w4.heap.size := Nat.le_trans zz3 hb4.size
    clear hb4 B3 H3 Z3 z3 cc3 ff3 sj3
    go_wp2_with fail
    refine (K3.out _ _ _ ((hs.keep H4 (Nat.le_refl _)).more (by omega)) (sj4.more zz4)).mono ?_
    rintro e w5 ⟨rfl, hb5⟩
    have H5 : Below w.heap.size w w5 := H4.trans (hb5.mono (by omega))
    clear hb5 B4 Z4 z4 cc4 ff4 sj4 hs ha hb H4
    have hcases : (100 < nj ∧ (e3 != 0) = true) ∨ (nj ≤ 100 ∧ e3 = 0 ∧ e1 = 0 ∧ e2 = 0 ∧ n3 = n1 + n2) ∨ (nj ≤ 100 ∧ (e3 == 0) = false ∧ (e3 != 0) = true ∧ n3 = 0 ∧ ((e1 == 0) = false ∨ ((e1 == 0) = true ∧ (e2 == 0) = false))) := by
      by_cases q : 100 < nj
      · exact .inl ⟨q, by rw [bne_iff_ne]; exact LONG.out q⟩
      · obtain ⟨q1, q2⟩ := LAW.out (by omega)
        by_cases q3 : e3 = 0
        · exact .inr (.inl ⟨by omega, q3, (q1.1 q3).1, (q1.1 q3).2, q2 q3⟩)
        · have hv := HV.out
          rw [if_neg q3] at hv
          refine .inr (.inr ⟨by omega, beq_eq_false_iff_ne.2 q3, by rw [bne_iff_ne]; exact q3, hv, ?_⟩)
          by_cases q4 : e1 = 0
          · exact .inr ⟨by rw [beq_iff_eq]; exact q4, beq_eq_false_iff_ne.2 fun h => q3 (q1.2 ⟨q4, h⟩)⟩
          · exact .inl (beq_eq_false_iff_ne.2 q4)
    clear LAW LONG HV
    rcases hcases with ⟨q1, q2⟩ | ⟨q1, rfl, rfl, rfl, rfl⟩ | ⟨q1, q2, q3, rfl, q4⟩
    · go_wp2
      go_ret
      exact ⟨rfl, H5⟩
    · go_wp2
      go_ret
      exact ⟨rfl, H5⟩
    · rcases q4 with q4 | ⟨q4, q5⟩
      all_goals
        by_cases q6 : (0 : Int) = n1 + n2
        · have q7 : ((0 : Int) == n1 + n2) = true := by rw [beq_iff_eq]; exact q6
          clear q6
          go_wp2
          go_ret
          exact ⟨rfl, H5⟩
        · have q7 : ((0 : Int) == n1 + n2) = false := beq_eq_false_iff_ne.2 q6
          clear q6
          go_wp2
          go_ret
          exact ⟨rfl, H5⟩
  · have kj := fun W h1 h2 => join_no A1 A2 c1 c2 a b W h1 h2 (by omega) (by omega) hfit
    have KJ := Lib.hid kj
    clear kj hfit
    go_enter Try.func9, Try.ntmps9
    go_wp2_with fail
    refine KEY0.out.mono ?_
    rintro e w1 ⟨rfl, hb1⟩
    have B1 : Below (w.heap.size + 1) (w.alloc (.cells #[.int .i64 N, .slice A l.length c] 57)) w1 := (((Below.refl _ _).alloc (by simp) _).alloc (by simp) _).trans (hb1.mono (by omega))
    have Z1 : w.heap.size + 1 ≤ w1.heap.size := by have := hb1.size; simp at this; omega
    have H1 : Below w.heap.size w w1 := hw0.trans (B1.mono (Nat.le_succ _))
    have ha1 := ha.keep H1 (Nat.le_refl _)
    have hb1' := hb.keep H1 (Nat.le_refl _)
    clear hb1
    go_wp2_with fail
    refine (KJ.out _ (ha1.more (by omega)) (hb1'.more (by omega))).mono ?_
    rintro e w2 ⟨rfl, hb2⟩
    have H2 : Below w.heap.size w w2 := H1.trans (hb2.mono (by omega))
    clear ha hb hs ha1 hb1'
    go_wp2
    go_ret
    exact ⟨rfl, H2⟩

theorem own : ownKnob Try.prog.godebug = none := by kernel_rfl
theorem laidOut : laidOutB Try.prog = true := by kernel_rfl

set_option maxRecDepth 100000 in
theorem contract (H : Type) (enc : TypeId × Value → H) (W : World) (base : Nat) (args : Array Value) (ds gs : List (DataW H)) (before : List MemPlace)
    (hval0 : ∀ (j : Nat) t v, Try.f9.params[j]? = some t → args[j]? = some v → Value.okWide Try.prog W .any base t v)
    (hW : DataW.Whole enc Try.prog Try.f9.params.toList Rows.walkPartsSpec.vars false W args.toList ds gs before) (hk : Rows.uptoSmall H (ds ++ gs) = true) :
    Calls Try.prog 9 args W fun e W' => ∃ v, e = .returned v ∧ Rows.walkPartsSpec.post enc Try.prog Try.f9 false true false false W args v W' := by
  have hval : ∀ (j : Nat) t v, Try.f9.params[j]? = some t → args[j]? = some v → Value.okWide Try.prog W .any base t v := hval0
  have hW' := hW
  obtain ⟨p, q, hA0, hV, rfl, hfz, hnd⟩ := hW
  have hA : DataW.TrodAll enc Try.prog W 0 (fun _ => true) true Try.f9.params.toList args.toList ds p := hA0
  rw [Try.params9] at hA hval
  obtain ⟨v0, vs0, d0, ds0, p0, q0, hargs, rfl, rfl, h0, r0⟩ := trodAll_cons hA
  obtain ⟨v1, vs1, d1, ds1, p1, q1, rfl, rfl, rfl, h1, r1⟩ := trodAll_cons r0
  obtain ⟨v2, vs2, d2, ds2, p2, q2, rfl, rfl, rfl, h2, r2⟩ := trodAll_cons r1
  obtain ⟨rfl, rfl, rfl⟩ := trodAll_nil r2
  obtain rfl : args = #[v0, v1, v2] := by cases args; simp_all
  obtain ⟨rfl, rfl⟩ := trodVars_none hV
  obtain ⟨N0, A0, c0, l0, dd0, rfl, hN0, hG0, hb0, rfl, hd0⟩ := open_net Try.underlying57 (by kernel_rfl) (by kernel_rfl) Try.underlying3 Try.underlying55 Try.underlying60 (by kernel_rfl) (by kernel_rfl) Try.underlying3 Try.underlying3 Try.underlying3 (hval 0 57 v0 rfl rfl) h0
  obtain ⟨A1, c1, l1, rfl, hG1, hd1, hb1⟩ := open_sl1 Try.underlying32 Try.underlying3 (by kernel_rfl) (hval 1 32 v1 rfl rfl) h1
  obtain ⟨A2, c2, l2, rfl, hG2, hd2, hb2⟩ := open_sl1 Try.underlying32 Try.underlying3 (by kernel_rfl) (hval 2 32 v2 rfl rfl) h2
  have hbulk := bulk_bound hk
  simp only [List.cons_append, List.nil_append, List.append_nil, Rows.uptoBulkAll] at hbulk
  have hq0 := bulk_agg2 (x := .lit (.int .i64 N0)) hd0
  have hq1 := bulk_len hd1
  have hq2 := bulk_len hd2
  refine (walk W N0 A0 c0 l0 hG0 A1 c1 l1 hG1 A2 c2 l2 hG2 (by omega)).mono fun e W' ⟨he, hB⟩ => ?_
  subst he
  exact ⟨_, rfl, post_of_law laidOut rfl Try.underlying4 rfl (by intro t ht; rw [Try.params9] at ht; simp at ht; rcases ht with rfl | rfl | rfl <;> exact ⟨by kernel_rfl, of_decide_eq_true (by kernel_rfl)⟩) hW' rfl hB⟩

set_option maxRecDepth 100000 in
theorem lifted (os : Os) (started : os.Started) (H : Type) (enc : TypeId × Value → H) (F : Stop.Interp) :
    ReturnsInHanded {} Try.checked os 9 .any ((Rows.OpenSpec.upto Rows.walkPartsSpec).pre6 enc Try.prog Try.f9 Rows.walkPartsUptoRow.domain false) (((Rows.OpenSpec.upto Rows.walkPartsSpec).at F).post enc Try.prog Try.f9 false true false false) := by
  refine returnsInHanded_of_cond (C := Try.checked) (s := Rows.OpenSpec.upto Rows.walkPartsSpec) (k := Rows.uptoSmall) rfl own started (by kernel_rfl) Try.func9
    (OpenSpec.witness (enc := enc) (C := Try.checked) (s := Rows.OpenSpec.upto Rows.walkPartsSpec) (k := Rows.uptoSmall) rfl false ⟨#[], #[.agg #[.int .i64 0, .slice none 0 0], .slice none 0 0, .slice none 0 0], []⟩ 8 (by kernel_rfl) (by kernel_rfl) (by kernel_rfl)
      (x := ([.agg [.lit (.int .i64 0), .nil], .nil, .nil], [], [])) (by kernel_rfl) rfl (by kernel_rfl)) ?_
  intro W base args ds gs before hval hW _ hk _
  exact contract H enc W base args ds gs before hval hW hk

theorem holds : Rows.WalkPartsUptoSaid :=
  OpenClaim.holds_of_cond 9 Try.f9 rfl rfl rfl rfl rfl rfl rfl ⟨rfl, rfl, rfl, rfl, rfl⟩ rfl rfl rfl rfl rfl (by kernel_rfl) Try.func9 (by kernel_rfl)
    (of_decide_eq_true (by kernel_rfl)) (by unfold Func.isWrapper; first | (rw [if_pos (by decide +kernel)]; kernel_rfl) | (rw [if_neg (by decide +kernel)]; exact ⟨rfl, rfl⟩))
    (fun os started H enc _ F => lifted os started H enc F)
#print axioms holds
end Go.Proofs.Ythlhlglmkcbgaaa.WalkPartsLaw
