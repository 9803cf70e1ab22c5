/- For every grid and place: GridBack answers true (every move has its move back at the same cost), and the arguments read as before. No condition. -/
import Derived.Test.YthlhlglmkcbgaaaRows
import Derived.Test.YthlhlglmkcbgaaaOpen
import Derived.Test.YthlhlglmkcbgaaaGridMoves
import Derived.Test.YthlhlglmkcbgaaaGridNo
import Derived.Test.YthlhlglmkcbgaaaGridBackLaw
import Derived.Test.YthlhlglmkcbgaaaStdE
namespace Go.Proofs.Ythlhlglmkcbgaaa.GridBackLaw
open Go.ChangeShapes Go.WideShapes Go.ChangeAt Go.RowKit Go.Proofs.Ythlhlglmkcbgaaa GridLaw Go.Proofs.Ythlhlglmkcbgaaa.Grid Go.Proofs.Ythlhlglmkcbgaaa.Std
set_option linter.unusedSimpArgs false
set_option linter.unusedVariables false

set_option maxRecDepth 100000 in
set_option maxHeartbeats 600000 in
theorem walk (w : World) (W H : Int) (A : Option Addr) (c : Nat) (l : List Int) (hW : -9223372036854775808 ≤ W ∧ W ≤ 9223372036854775807) (hH : -9223372036854775808 ≤ H ∧ H ≤ 9223372036854775807) (hA : Arg w 1 ci A c l) (a : Int) (ha : -9223372036854775808 ≤ a ∧ a ≤ 9223372036854775807) :
    Calls Try.prog 12 #[.agg #[.int .i64 W, .int .i64 H, .slice A l.length c], .int .i64 a] w fun e w' => e = .returned (.bool true) ∧ Below w.heap.size w w' := by
  have hs := hA.sl
  have hll : l.length ≤ 9223372036854775807 := Nat.le_trans hA.cap hA.max
  clear hA
  have hw0 : Below w.heap.size w (w.alloc (.cells #[.int .i64 W, .int .i64 H, .slice A l.length c] 70)) := (Below.refl _ _).alloc (Nat.le_refl _) _
  have key0 : ∀ (W : World) (g : Nat), Sl W W.heap.size 1 ci (some ⟨g, 0, none⟩) [1, 2] → Calls Try.prog 39 #[.agg #[.int .i64 2, .int .i64 1, .slice (some ⟨g, 0, none⟩) 2 2], .int .i64 0] W fun e w' => ∃ A c, e = .returned (.tuple #[.slice A 1 c, .int .i64 0]) ∧ Own w' W.heap.size 60 3 ce (.slice A 1 c) [(0, 1, 15)] ∧ Below W.heap.size W w' := by
    intro W g h
    have k := moves_yes 2 1 0 (some ⟨g, 0, none⟩) 2 [1, 2] W h (gchk_zero.1 (by decide +kernel)) (by decide) (by decide)
    rw [show mv 2 1 [1, 2] (0 % 2) (0 / 2) = [(0, 1, 15)] from by decide +kernel] at k
    exact k
  have key1 : ∀ (W : World) (A A' : Option Addr) (c : Nat) (B B' : Nat), Sl W B 3 ce A [(0, 1, 15)] → Sl W B' 3 ce A' [(0, 1, 15)] → Calls Try.prog 40 #[.slice A 1 c, .slice A' 1 1] W fun e w' => e = .returned (.bool true) ∧ ∃ k, w' = W.drewN k :=
    fun W A A' c B B' h h' => equal_edge' A A' 1 1 c 1 [(0, 1, 15)] [(0, 1, 15)] B B' W h h' rfl rfl (by decide) true (by decide)
  have KEY0 := Lib.hid key0
  have KEY1 := Lib.hid key1
  clear key0 key1
  by_cases hg : GGood W H l ∧ 0 ≤ a ∧ a < l.length
  · obtain ⟨hg, ha0, ha1⟩ := hg
    have hlen := hg.len
    have k3 := fun w' h => moves_yes W H a A c l w' h hg ha0 ha1
    have hxy : a / W * W + a % W = a := Int.ediv_mul_add_emod a W
    have hmb := fun f t k => mv_back (W := W) (H := H) (l := l) (x := a % W) (y := a / W) (f := f) (t := t) (k := k)
    rw [hxy, ← hlen] at hmb
    have h8 := mv_eight W H l (a % W) (a / W)
    have k4 := fun t w' h h0 h1 => moves_yes W H t A c l w' h hg h0 h1
    generalize mv W H l (a % W) (a / W) = m at k3 hmb h8
    have K3 := Lib.hid k3
    have K4 := Lib.hid k4
    have HMB := Lib.hid hmb
    clear k3 k4 hmb hlen hxy
    go_enter Try.func12, Try.ntmps12
    go_wp2_with fail
    refine (KEY0.out _ _ (sl_new' (by decide) _ #[.int .i64 1, .int .i64 2] _ _ (by simp) rfl)).mono ?_
    rintro e w1 ⟨A1, c1, rfl, own1, hb1⟩
    have B1 : Below (w.heap.size + 1) (w.alloc (.cells #[.int .i64 W, .int .i64 H, .slice A l.length c] 70)) w1 := ((Below.refl _ _).alloc (by simp) _).trans (hb1.mono (by simp))
    have Z1 : w.heap.size + 1 ≤ w1.heap.size := by have := hb1.size; simp at this; omega
    have z1 : w.heap.size < w1.heap.size := by omega
    clear hb1
    go_wp2_with fail
    refine (KEY1.out _ _ _ _ _ _ (own1.alloc _).sl.2 (sl_new' (by decide) _ #[.int .i64 0, .int .i64 1, .int .i64 15] _ _ rfl rfl)).mono ?_
    rintro e w2 ⟨rfl, n2, rfl⟩
    have B2 := below_drewN (B1.alloc Z1 (.cells #[.int .i64 0, .int .i64 1, .int .i64 15] 60)) n2
    have Z2 : w.heap.size + 1 ≤ (w1.alloc (.cells #[.int .i64 0, .int .i64 1, .int .i64 15] 60)).heap.size := by simp; omega
    have z2 : w.heap.size < (w1.alloc (.cells #[.int .i64 0, .int .i64 1, .int .i64 15] 60)).heap.size := by simp; omega
    generalize (w1.alloc (.cells #[.int .i64 0, .int .i64 1, .int .i64 15] 60)) = w2 at B2 Z2 z2 ⊢
    have H2 : Below w.heap.size w (w2.drewN n2) := hw0.trans (B2.mono (Nat.le_succ _))
    obtain ⟨cc2, ff2⟩ := keepAt B2 (Nat.lt_succ_self _)
    clear own1 B1 Z1 z1
    go_wp2_with fail
    refine (K3.out _ ((hs.keep H2 (Nat.le_refl _)).more (by simp; omega))).mono ?_
    rintro e w3 ⟨A3, c3, rfl, own3, hb3⟩
    have B3 := B2.trans (hb3.mono Z2)
    have Z3 : w.heap.size + 1 ≤ w3.heap.size := by have := hb3.size; simp at this; omega
    have z3 : w.heap.size < w3.heap.size := by omega
    have H3 : Below w.heap.size w w3 := hw0.trans (B3.mono (Nat.le_succ _))
    have sl3 := own3.sl.2
    clear hb3 cc2 ff2 B2 H2 z2 Z2 own3
    go_wp2
    go_loopw [41] (fun i wr => ∃ k : Nat, k ≤ m.length ∧ i = .int .i64 k ∧ Below w3.heap.size w3 wr) (fun i _ => m.length - (intOf i).toNat)
    case atStart => exact ⟨0, Nat.zero_le _, rfl, Below.refl _ _⟩
    case round =>
      obtain ⟨k, hk, rfl, hB⟩ := hrel
      have zr : w3.heap.size ≤ wr.heap.size := hB.size
      have zr1 : w.heap.size < wr.heap.size := by omega
      have Br := B3.trans (hB.mono Z3)
      have Hr : Below w.heap.size w wr := hw0.trans (Br.mono (Nat.le_succ _))
      obtain ⟨cc3, ff3⟩ := keepAt Br (Nat.lt_succ_self _)
      by_cases hlt : k < m.length
      · obtain ⟨b, off, f, t, co, rfl, hbB, hx, q1, q2, q3⟩ := (sl3.keep hB (Nat.le_refl _)).atE hlt
        obtain ⟨hf, ht0, ht1, hback⟩ := HMB.out f t co (by rw [← hx]; exact List.getElem_mem hlt)
        have k4 := fun w' h => K4.out t w' h ht0 ht1
        have h82 := mv_eight W H l (t % W) (t / W)
        generalize mv W H l (t % W) (t / W) = m2 at k4 hback h82
        have k5 := fun w' A c hl => contains_edge A c m2 t f co w' hl (by omega)
        rw [decide_eq_true hback] at k5
        subst hf
        have KM := Lib.hid k4
        have KC := Lib.hid k5
        have hBx := hB.alloc zr (.cells #[.int .i64 f, .int .i64 t, .int .i64 co] 60)
        have Hx := Hr.alloc (Nat.le_of_lt zr1) (.cells #[.int .i64 f, .int .i64 t, .int .i64 co] 60)
        clear k4 k5 hback hx
        go_wp2_with fail
        refine (KM.out _ ((hs.keep Hx (Nat.le_refl _)).more (by simp; omega))).mono ?_
        rintro e w4 ⟨A4, c4, rfl, own4, hb4⟩
        have B4 := hBx.trans (hb4.mono (by simp; omega))
        have Z4 : wr.heap.size < w4.heap.size := by have := hb4.size; simp at this; omega
        have z4 : w.heap.size < w4.heap.size := by omega
        have H4 : Below w.heap.size w w4 := H3.trans (B4.mono (by omega))
        obtain ⟨ca4, fa4⟩ := keepAt hb4 (b := wr.heap.size) (by simp)
        have sl4 := own4.sl.2
        clear hb4 own4 hBx Hx cc3 ff3 Br Hr
        go_wp2_with fail
        refine (KC.out _ _ _ sl4).mono ?_
        rintro e w5 ⟨rfl, hb5⟩
        have B5 := B4.trans (hb5.mono (by omega))
        clear hb5 sl4 B4 H4 ca4 fa4
        go_wp2
        go_roundw
        case rel => exact ⟨k + 1, by omega, by go_num, B5⟩
        case measure => simp [intOf]; omega
      · obtain rfl : k = m.length := by omega
        clear sl3 hs
        have hle : decide ((m.length : Int) ≤ 8) = true := decide_eq_true (by omega)
        go_wp2
        go_ret
        exact ⟨rfl, Hr⟩
  · have k3 := fun w' h => moves_no W H a A c l w' h hll hg
    have K3 := Lib.hid k3
    clear k3 hg
    go_enter Try.func12, Try.ntmps12
    go_wp2_with fail
    refine (KEY0.out _ _ (sl_new' (by decide) _ #[.int .i64 1, .int .i64 2] _ _ (by simp) rfl)).mono ?_
    rintro e w1 ⟨A1, c1, rfl, own1, hb1⟩
    have B1 : Below (w.heap.size + 1) (w.alloc (.cells #[.int .i64 W, .int .i64 H, .slice A l.length c] 70)) w1 := ((Below.refl _ _).alloc (by simp) _).trans (hb1.mono (by simp))
    have Z1 : w.heap.size + 1 ≤ w1.heap.size := by have := hb1.size; simp at this; omega
    have z1 : w.heap.size < w1.heap.size := by omega
    clear hb1
    go_wp2_with fail
    refine (KEY1.out _ _ _ _ _ _ (own1.alloc _).sl.2 (sl_new' (by decide) _ #[.int .i64 0, .int .i64 1, .int .i64 15] _ _ rfl rfl)).mono ?_
    rintro e w2 ⟨rfl, n2, rfl⟩
    have B2 := below_drewN (B1.alloc Z1 (.cells #[.int .i64 0, .int .i64 1, .int .i64 15] 60)) n2
    have Z2 : w.heap.size + 1 ≤ (w1.alloc (.cells #[.int .i64 0, .int .i64 1, .int .i64 15] 60)).heap.size := by simp; omega
    have z2 : w.heap.size < (w1.alloc (.cells #[.int .i64 0, .int .i64 1, .int .i64 15] 60)).heap.size := by simp; omega
    generalize (w1.alloc (.cells #[.int .i64 0, .int .i64 1, .int .i64 15] 60)) = w2 at B2 Z2 z2 ⊢
    have H2 : Below w.heap.size w (w2.drewN n2) := hw0.trans (B2.mono (Nat.le_succ _))
    obtain ⟨cc2, ff2⟩ := keepAt B2 (Nat.lt_succ_self _)
    clear own1 B1 Z1 z1
    go_wp2_with fail
    refine (K3.out _ ((hs.keep H2 (Nat.le_refl _)).more (by simp; omega))).mono ?_
    rintro e w3 ⟨x, hx, rfl, hb3⟩
    have hx1 : (x != 0) = true := by rw [bne_iff_ne]; exact hx
    have H3 : Below w.heap.size w w3 := H2.trans (hb3.mono (by simp; omega))
    clear hb3 cc2 ff2 B2 H2 z2 Z2 hx hs
    go_wp2
    go_ret
    exact ⟨rfl, H3⟩

theorem own : ownKnob Try.prog.godebug = none := by kernel_rfl
theorem laidOut : laidOutB Try.prog = true := by kernel_rfl

set_option maxRecDepth 100000 in
theorem lifted (os : Os) (started : os.Started) (H : Type) (enc : TypeId × Value → H) :
    ReturnsInHanded {} Try.checked os 12 .any (Rows.gridBackSpec.pre6 enc Try.prog Try.f12 Rows.gridBackRow.domain false) (Rows.gridBackSpec.post enc Try.prog Try.f12 false true false false) := by
  refine returnsInHanded_of_change (C := Try.checked) own started (by kernel_rfl) Try.func12
    (ChangeSpec.witness6 (enc := enc) (C := Try.checked) false ⟨#[], #[.agg #[.int .i64 0, .int .i64 0, .slice none 0 0], .int .i64 0], []⟩ 8 (by kernel_rfl) (by kernel_rfl) (by kernel_rfl) (by kernel_rfl)) ?_
  intro W base args ds gs before hval0 hW hcnd _
  have hval : ∀ (j : Nat) t v, Try.f12.params[j]? = some t → args[j]? = some v → Value.okWide Try.prog W .any base t v := hval0
  have hW' := hW
  obtain ⟨p, q, hA0, hV, rfl, hfz, hnd⟩ := hW
  have hA : DataW.TrodAll enc Try.prog W 0 (fun _ => true) true Try.f12.params.toList args.toList ds p := hA0
  rw [Try.params12] at hA hval
  obtain ⟨v0, vs0, d0, ds0, p0, q0, hargs, rfl, rfl, h0, r0⟩ := trodAll_cons hA
  obtain ⟨v1, vs1, d1, ds1, p1, q1, rfl, rfl, rfl, h1, r1⟩ := trodAll_cons r0
  obtain ⟨rfl, rfl, rfl⟩ := trodAll_nil r1
  obtain rfl : args = #[v0, v1] := by cases args; simp_all
  obtain ⟨rfl, rfl⟩ := trodVars_none hV
  obtain ⟨W0, H0, A0, c0, l0, dd0, rfl, hW0, hH0, hG0, hb0, rfl, hd0⟩ := open_grid Try.underlying70 (by kernel_rfl) (by kernel_rfl) Try.underlying3 Try.underlying3 Try.underlying32 Try.underlying3 (by kernel_rfl) (hval 0 70 v0 rfl rfl) h0
  obtain ⟨a1, rfl, rfl, rfl, wa1⟩ := open_int Try.underlying3 (hval 1 3 v1 rfl rfl) h1
  refine (walk W W0 H0 A0 c0 l0 hW0 hH0 hG0 a1 (wf_bd wa1)).mono fun e W' ⟨he, hB⟩ => ?_
  subst he
  exact ⟨_, rfl, post_of_law laidOut rfl Try.underlying4 rfl (by intro t ht; rw [Try.params12] at ht; simp at ht; rcases ht with rfl | rfl <;> exact ⟨by kernel_rfl, of_decide_eq_true (by kernel_rfl)⟩) hW' rfl hB⟩

theorem holds : Rows.GridBackSaid :=
  OpenClaim.holds_of_wide 12 Try.f12 rfl rfl rfl rfl rfl rfl rfl ⟨rfl, rfl, rfl, rfl, rfl⟩ rfl rfl rfl rfl rfl (by kernel_rfl) Try.func12 (by kernel_rfl)
    (of_decide_eq_true (by kernel_rfl)) (by unfold Func.isWrapper; first | (rw [if_pos (by decide +kernel)]; kernel_rfl) | (rw [if_neg (by decide +kernel)]; exact ⟨rfl, rfl⟩))
    (fun os started H enc _ => lifted os started H enc)
#print axioms holds
end Go.Proofs.Ythlhlglmkcbgaaa.GridBackLaw
