/- For every net and walk: WalkBack answers true (a walk the other way through the net turned round costs the same), and the arguments read as before. No condition. -/
import Derived.Test.YthlhlglmkcbgaaaRows
import Derived.Test.YthlhlglmkcbgaaaOpen
import Derived.Test.YthlhlglmkcbgaaaWalkCost
import Derived.Test.YthlhlglmkcbgaaaWalkBackLaw
import Derived.Test.YthlhlglmkcbgaaaNetTurn
import Derived.Test.YthlhlglmkcbgaaaStdI
import Derived.Test.YthlhlglmkcbgaaaStdR
namespace Go.Proofs.Ythlhlglmkcbgaaa.WalkBackLaw
open Go.ChangeShapes Go.WideShapes Go.ChangeAt Go.RowKit Go.Proofs.Ythlhlglmkcbgaaa NetLaw WalkLaw Go.Proofs.Ythlhlglmkcbgaaa.Walk Go.Proofs.Ythlhlglmkcbgaaa.Net Go.Proofs.Ythlhlglmkcbgaaa.Std
set_option linter.unusedSimpArgs false
set_option linter.unusedVariables false

theorem tl_trn (l : List E) : tl l = trn l := rfl
set_option maxRecDepth 100000 in
set_option maxHeartbeats 600000 in
theorem walk (w : World) (N : Int) (A : Option Addr) (c : Nat) (l : List E) (hA : Arg w 3 ce A c l) (A1 : Option Addr) (c1 : Nat) (p : List Int) (hA1 : Arg w 1 ci A1 c1 p) (hsz : p.length * 8 ≤ 140737488351232) :
    Calls Try.prog 14 #[.agg #[.int .i64 N, .slice A l.length c], .slice A1 p.length c1] w fun e w' => e = .returned (.bool true) ∧ Below w.heap.size w w' := by
  have hs := hA.sl
  have hp := hA1.sl
  have hpn := hA1.nil
  have hll : l.length ≤ 9223372036854775807 := Nat.le_trans hA.cap hA.max
  have hpl : p.length ≤ 9223372036854775807 := by omega
  clear hA hA1
  have hw0 : Below w.heap.size w (w.alloc (.cells #[.int .i64 N, .slice A l.length c] 57)) := (Below.refl _ _).alloc (Nat.le_refl _) _
  have key0 : ∀ (W : World) (g : Nat), Sl W W.heap.size 1 ci (some ⟨g, 0, none⟩) [0] → Calls Try.prog 33 #[.agg #[.int .i64 1, .slice none 0 0], .slice (some ⟨g, 0, none⟩) 1 1] W fun e w' => e = .returned (.tuple #[.int .i64 0, .int .i64 0]) ∧ Below W.heap.size W w' := by
    intro W g h
    have k := cost_any 1 none 0 [] (some ⟨g, 0, none⟩) 1 [0] W Sl.nil h (by decide) (by decide)
    rw [show cost 1 [] [0] = (0, 0) from by decide +kernel] at k
    exact k
  have key1 : ∀ (W : World) (g : Nat), Sl W W.heap.size 1 ci (some ⟨g, 0, none⟩) [0, 0] → Calls Try.prog 33 #[.agg #[.int .i64 1, .slice none 0 0], .slice (some ⟨g, 0, none⟩) 2 2] W fun e w' => e = .returned (.tuple #[.int .i64 0, .int .i64 5]) ∧ Below W.heap.size W w' := by
    intro W g h
    have k := cost_any 1 none 0 [] (some ⟨g, 0, none⟩) 2 [0, 0] W Sl.nil h (by decide) (by decide)
    rw [show cost 1 [] [0, 0] = (0, 5) from by decide +kernel] at k
    exact k
  have KEY0 := Lib.hid key0
  have KEY1 := Lib.hid key1
  clear key0 key1
  by_cases hg : NetLaw.Good N l
  · have k3 := fun W A' c' h1 h2 => cost_any N A c l A' c' p W h1 h2 hll hpl
    have k4 := fun W A2 c2 A' c' h1 h2 => cost_any N A2 c2 (tl l) A' c' p.reverse W h1 h2 (by rw [tl_len]; exact hll) (by rw [List.length_reverse]; exact hpl)
    rw [tl_trn, cost_rev hg] at k4
    generalize cost N l p = co at k3 k4
    obtain ⟨n, e0⟩ := co
    simp only at k3 k4
    rw [List.length_reverse] at k4
    have hpr : p.reverse.length = p.length := List.length_reverse
    have kt := fun W h => turn_yes N A c l W h hg
    rw [tl_trn] at kt
    generalize trn l = lt at *
    have K3 := Lib.hid k3
    have K4 := Lib.hid k4
    have KT := Lib.hid kt
    have HPR := Lib.hid hpr
    clear k3 k4 kt hg hpr
    go_enter Try.func14, Try.ntmps14
    go_wp2_with fail
    refine (KEY0.out _ _ (sl_new' (by decide) _ #[.int .i64 0] _ _ (by simp) rfl)).mono ?_
    rintro e w1 ⟨rfl, hb1⟩
    have B1 : Below (w.heap.size + 1) (w.alloc (.cells #[.int .i64 N, .slice A l.length c] 57)) w1 := ((Below.refl _ _).alloc (by simp) _).trans (hb1.mono (by simp))
    have Z1 : w.heap.size + 1 ≤ w1.heap.size := by have := hb1.size; simp at this; omega
    clear hb1
    go_wp2_with fail
    refine (KEY1.out _ _ (sl_new' (by decide) _ #[.int .i64 0, .int .i64 0] _ _ rfl rfl)).mono ?_
    rintro e w2 ⟨rfl, hb2⟩
    have B2 := (B1.alloc Z1 _).trans (hb2.mono (by simp; omega))
    have Z2 : w.heap.size + 1 ≤ w2.heap.size := by have := hb2.size; simp at this; omega
    have z2 : w.heap.size < w2.heap.size := by omega
    have H2 : Below w.heap.size w w2 := hw0.trans (B2.mono (Nat.le_succ _))
    obtain ⟨cc2, ff2⟩ := keepAt B2 (Nat.lt_succ_self _)
    clear hb2 B1 Z1
    go_wp2_with fail
    refine (KT.out _ ((hs.keep H2 (Nat.le_refl _)).more (by omega))).mono ?_
    rintro e w3 ⟨A3, c3, rfl, hown3, hb3⟩
    have B3 := B2.trans (hb3.mono Z2)
    have Z3 : w.heap.size + 1 ≤ w3.heap.size := by have := hb3.size; omega
    have z3 : w.heap.size < w3.heap.size := by omega
    have H3 : Below w.heap.size w w3 := hw0.trans (B3.mono (Nat.le_succ _))
    have hsl3 := hown3.sl.2
    have H3' := H3.alloc H3.size (.cells #[.int .i64 N, .slice A3 lt.length c3] 57)
    have B3' := B3.alloc Z3 (.cells #[.int .i64 N, .slice A3 lt.length c3] 57)
    have hbox := heap_alloc_new w3 (.cells #[.int .i64 N, .slice A3 lt.length c3] 57)
    have hsz3 : (w3.alloc (.cells #[.int .i64 N, .slice A3 lt.length c3] 57)).heap.size = w3.heap.size + 1 := by simp
    have hsl3' := hsl3.keep ((Below.refl w3.heap.size w3).alloc (Nat.le_refl _) (.cells #[.int .i64 N, .slice A3 lt.length c3] 57)) (Nat.le_refl _)
    have HSZ3 := Lib.hid hsz3
    have HBOX := Lib.hid hbox
    clear hb3 B2 H2 Z2 z2 cc2 ff2 hown3 hsl3 hsz3 hbox
    go_wp2_with fail
    refine (clone_int A1 c1 p w.heap.size _ (hp.keep H3' (Nat.le_refl _)) H3'.size hpn (by omega)).mono ?_
    rintro e w4 ⟨A4, c4, rfl, hown4, hb4⟩
    go_wp2_with fail
    refine (reverse_int _ A4 p.length c4 p w4 rfl hown4 hpl).mono ?_
    rintro e w5 ⟨rfl, hown5, hgr5⟩
    have hb5 : Below (w3.alloc (.cells #[.int .i64 N, .slice A3 lt.length c3] 57)).heap.size (w3.alloc (.cells #[.int .i64 N, .slice A3 lt.length c3] 57)) w5 := hb4.grown hgr5 hb4.size hown4.lo
    have HBOX5 := blk_below HBOX.out hb5 (by rw [HSZ3.out]; omega)
    rw [HSZ3.out] at hb5
    have q0 := blk_cell HBOX5 0
    have q1 := blk_cell HBOX5 1
    simp only [List.getElem?_toArray, List.getElem?_cons_zero, List.getElem?_cons_succ] at q0 q1
    have B5 := B3'.trans (hb5.mono (by omega))
    have Z5 : w3.heap.size + 1 ≤ w5.heap.size := by have := hb5.size; rw [HSZ3.out] at this; exact this
    have z5 : w.heap.size < w5.heap.size := by omega
    have H5 : Below w.heap.size w w5 := hw0.trans (B5.mono (Nat.le_succ _))
    obtain ⟨cc5, ff5⟩ := keepAt B5 (Nat.lt_succ_self _)
    have hsl5 := hsl3'.keep hb5 (by omega)
    have hbk5 : Sl w5 w5.heap.size 1 ci A4 p.reverse := by
      have h := (show Own w5 _ 3 1 ci (.slice A4 p.length c4) p.reverse from hown5).sl
      exact h.2
    clear hown5 hgr5 hown4 hb4 hb5 B3' B3 H3' HBOX5 HBOX hsl3'
    go_wp2_with fail
    refine (K3.out _ _ _ ((hs.keep H5 (Nat.le_refl _)).more (by omega)) ((hp.keep H5 (Nat.le_refl _)).more (by omega))).mono ?_
    rintro e w6 ⟨rfl, hb6⟩
    have s0 := hb6.cell (p := ⟨w3.heap.size, 0, none⟩) (by dsimp only; omega)
    have s1 := hb6.cell (p := ⟨w3.heap.size, 1, none⟩) (by dsimp only; omega)
    rw [q0] at s0
    rw [q1] at s1
    have H6 : Below w.heap.size w w6 := H5.trans (hb6.mono (by omega))
    have zz : w5.heap.size ≤ w6.heap.size := hb6.size
    have hsl6 := hsl5.keep hb6 (by omega)
    have hbk6 := hbk5.keep hb6 (Nat.le_refl _)
    clear q0 q1 cc5 ff5 hb6 hsl5 hbk5 B5
    go_wp2_with fail
    refine (K4.out _ _ _ _ _ (hsl6.more (by omega)) (hbk6.more zz)).mono ?_
    rintro e w7 ⟨rfl, hb7⟩
    have H7 : Below w.heap.size w w7 := H6.trans (hb7.mono (by omega))
    clear hb7 hsl6 hbk6 hs hp s0 s1
    go_wp2
    go_ret
    exact ⟨rfl, H7⟩
  · have kt := fun W h => turn_no N A c l W h hll hg
    have hne : (chk N l != 0) = true := by rw [bne_iff_ne]; exact fun h => hg (chk_zero.1 h)
    generalize chk N l = er at *
    have KT := Lib.hid kt
    clear kt hg
    go_enter Try.func14, Try.ntmps14
    go_wp2_with fail
    refine (KEY0.out _ _ (sl_new' (by decide) _ #[.int .i64 0] _ _ (by simp) rfl)).mono ?_
    rintro e w1 ⟨rfl, hb1⟩
    have B1 : Below (w.heap.size + 1) (w.alloc (.cells #[.int .i64 N, .slice A l.length c] 57)) w1 := ((Below.refl _ _).alloc (by simp) _).trans (hb1.mono (by simp))
    have Z1 : w.heap.size + 1 ≤ w1.heap.size := by have := hb1.size; simp at this; omega
    clear hb1
    go_wp2_with fail
    refine (KEY1.out _ _ (sl_new' (by decide) _ #[.int .i64 0, .int .i64 0] _ _ rfl rfl)).mono ?_
    rintro e w2 ⟨rfl, hb2⟩
    have B2 := (B1.alloc Z1 _).trans (hb2.mono (by simp; omega))
    have Z2 : w.heap.size + 1 ≤ w2.heap.size := by have := hb2.size; simp at this; omega
    have z2 : w.heap.size < w2.heap.size := by omega
    have H2 : Below w.heap.size w w2 := hw0.trans (B2.mono (Nat.le_succ _))
    obtain ⟨cc2, ff2⟩ := keepAt B2 (Nat.lt_succ_self _)
    clear hb2 B1 Z1
    go_wp2_with fail
    refine (KT.out _ ((hs.keep H2 (Nat.le_refl _)).more (by omega))).mono ?_
    rintro e w3 ⟨rfl, hb3⟩
    have H3 : Below w.heap.size w w3 := H2.trans (hb3.mono (by omega))
    clear hb3 hs hp cc2 ff2
    go_wp2
    go_ret
    exact ⟨rfl, H3.alloc H3.size _⟩

theorem own : ownKnob Try.prog.godebug = none := by kernel_rfl
theorem laidOut : laidOutB Try.prog = true := by kernel_rfl

set_option maxRecDepth 100000 in
theorem lifted (os : Os) (started : os.Started) (H : Type) (enc : TypeId × Value → H) :
    ReturnsInHanded {} Try.checked os 14 .any (Rows.walkBackSpec.pre6 enc Try.prog Try.f14 Rows.walkBackRow.domain false) (Rows.walkBackSpec.post enc Try.prog Try.f14 false true false false) := by
  refine returnsInHanded_of_change_sized (C := Try.checked) own started (by kernel_rfl) Try.func14
    (ChangeSpec.witness6 (enc := enc) (C := Try.checked) false ⟨#[], #[.agg #[.int .i64 0, .slice none 0 0], .slice none 0 0], []⟩ 8 (by kernel_rfl) (by kernel_rfl) (by kernel_rfl) (by kernel_rfl)) ?_
  intro W base args ds gs before hval0 hW hcnd hsz0 _
  have hval : ∀ (j : Nat) t v, Try.f14.params[j]? = some t → args[j]? = some v → Value.okWide Try.prog W .any base t v := hval0
  have hW' := hW
  obtain ⟨p, q, hA0, hV, rfl, hfz, hnd⟩ := hW
  have hA : DataW.TrodAll enc Try.prog W 0 (fun _ => true) true Try.f14.params.toList args.toList ds p := hA0
  have hsz : (DataW.weightsEach Try.prog (Try.f14.params.toList ++ Rows.walkBackSpec.plain.varTypes Try.prog) (ds ++ gs)).all (· ≤ reachBytes) = true := hsz0
  rw [Try.params14] at hsz
  rw [Try.params14] at hA hval
  obtain ⟨v0, vs0, d0, ds0, p0, q0, hargs, rfl, rfl, h0, r0⟩ := trodAll_cons hA
  obtain ⟨v1, vs1, d1, ds1, p1, q1, rfl, rfl, rfl, h1, r1⟩ := trodAll_cons r0
  obtain ⟨rfl, rfl, rfl⟩ := trodAll_nil r1
  obtain rfl : args = #[v0, v1] := by cases args; simp_all
  obtain ⟨rfl, rfl⟩ := trodVars_none hV
  obtain ⟨N0, A0, c0, l0, dd0, rfl, hN0, hG0, hb0, rfl, hd0⟩ := open_net Try.underlying57 (by kernel_rfl) (by kernel_rfl) Try.underlying3 Try.underlying55 Try.underlying60 (by kernel_rfl) (by kernel_rfl) Try.underlying3 Try.underlying3 Try.underlying3 (hval 0 57 v0 rfl rfl) h0
  obtain ⟨A1, c1, l1, rfl, hG1, hd1, hb1⟩ := open_sl1 Try.underlying32 Try.underlying3 (by kernel_rfl) (hval 1 32 v1 rfl rfl) h1
  refine (walk W N0 A0 c0 l0 hG0 A1 c1 l1 hG1 (sized_len hsz 8 (j := 1) rfl rfl Try.underlying32 (by kernel_rfl) hd1)).mono fun e W' ⟨he, hB⟩ => ?_
  subst he
  exact ⟨_, rfl, post_of_law laidOut rfl Try.underlying4 rfl (by intro t ht; rw [Try.params14] at ht; simp at ht; rcases ht with rfl | rfl <;> exact ⟨by kernel_rfl, of_decide_eq_true (by kernel_rfl)⟩) hW' rfl hB⟩

theorem holds : Rows.WalkBackSaid :=
  OpenClaim.holds_of_wide 14 Try.f14 rfl rfl rfl rfl rfl rfl rfl ⟨rfl, rfl, rfl, rfl, rfl⟩ rfl rfl rfl rfl rfl (by kernel_rfl) Try.func14 (by kernel_rfl)
    (of_decide_eq_true (by kernel_rfl)) (by unfold Func.isWrapper; first | (rw [if_pos (by decide +kernel)]; kernel_rfl) | (rw [if_neg (by decide +kernel)]; exact ⟨rfl, rfl⟩))
    (fun os started H enc _ => lifted os started H enc)
#print axioms holds
end Go.Proofs.Ythlhlglmkcbgaaa.WalkBackLaw
