/- For every list and pair: HeapOrders answers true (what is sorted is in order, and as much as there was of each), and the arguments read as before. No condition. -/
import Derived.Test.YthlhlglmkcbgaaaRows
import Derived.Test.YthlhlglmkcbgaaaOpen
import Derived.Test.YthlhlglmkcbgaaaHeapSort
import Derived.Test.YthlhlglmkcbgaaaHeapCount
import Derived.SizedLaws
import Derived.BigRegion
import Derived.BigQuiet
import Derived.Deep.RegionHeld3
import Derived.Deep.RegionWith
namespace Go.Proofs.Ythlhlglmkcbgaaa.HeapOrdersLaw
open Go.ChangeShapes Go.WideShapes Go.ChangeAt Go.RowKit Go.Proofs.Ythlhlglmkcbgaaa HeapLaw Go.Proofs.Ythlhlglmkcbgaaa.Heap Go.Proofs.Ythlhlglmkcbgaaa.Std
set_option linter.unusedSimpArgs false
set_option linter.unusedVariables false

theorem first_sorted {L : List (Int × Int)} (hp : L.Perm [(2, 0), (1, 5), (1, 4)]) (hs : Srt L) : L = [(1, 4), (1, 5), (2, 0)] :=
  srt_unique hs (by unfold Srt; decide) (hp.trans (by decide))
theorem srt_at {L : List (Int × Int)} (h : Srt L) {j : Nat} (hj : j + 1 < L.length) : ltP L[j + 1] (L[j]'(by omega)) = false := by
  have := List.pairwise_iff_getElem.1 h j (j + 1) (by omega) hj (by omega)
  exact this

set_option maxRecDepth 100000 in
set_option maxHeartbeats 4000000 in
theorem walk (w : World) (A : Option Addr) (c : Nat) (l : List (Int × Int)) (hA : Arg w 2 cp A c l) (a b : Int) (ha : -9223372036854775808 ≤ a ∧ a ≤ 9223372036854775807) (hb : -9223372036854775808 ≤ b ∧ b ≤ 9223372036854775807) (hsz : l.length * 16 ≤ 140737488351232) :
    Calls Try.prog 8 #[.slice A l.length c, .agg #[.int .i64 a, .int .i64 b]] w fun e w' => e = .returned (.bool true) ∧ Below w.heap.size w w' := by
  obtain ⟨i0, hi, hz0, hz1, hz2⟩ := info_parts infoPop
  have hs := hA.sl
  have hnil := hA.nil
  clear hA
  have hw0 : Below w.heap.size w (w.alloc (.cells #[.int .i64 a, .int .i64 b] 50)) := (Below.refl _ _).alloc (Nat.le_refl _) _
  have key0 : ∀ (W : World) (g : Nat), Sl W W.heap.size 2 cp (some ⟨g, 0, none⟩) [(2, 0), (1, 5), (1, 4)] → Calls Try.prog 30 #[.slice (some ⟨g, 0, none⟩) 3 3] W fun e w' => ∃ A c, e = .returned (.slice A 3 c) ∧ Own w' W.heap.size 50 2 cp (.slice A 3 c) [(1, 4), (1, 5), (2, 0)] ∧ Below W.heap.size W w' := fun W g h => by
    refine (sort_any (some ⟨g, 0, none⟩) 3 [(2, 0), (1, 5), (1, 4)] W h (by decide)).mono ?_
    rintro e w' ⟨A, c, L, he, ho, hp, hs, hb⟩
    rw [first_sorted hp hs] at ho
    exact ⟨A, c, he, ho, hb⟩
  have key1 : ∀ (W : World) (A : Option Addr) (c g B B' : Nat), Sl W B 2 cp A [(1, 4), (1, 5), (2, 0)] → Sl W B' 2 cp (some ⟨g, 0, none⟩) [(1, 4), (1, 5), (2, 0)] → Calls Try.prog 31 #[.slice A 3 c, .slice (some ⟨g, 0, none⟩) 3 3] W fun e w' => e = .returned (.bool true) ∧ ∃ k, w' = W.drewN k :=
    fun W A c g B B' h h' => equal_pop' A (some ⟨g, 0, none⟩) 3 3 c 3 _ _ B B' W h h' rfl rfl (by decide) true (by decide)
  have key2 := fun W h => sort_any A c l W h (by omega)
  have key3 := fun W x y h => count_any A c l.length l x y W h rfl (by omega)
  have KEY0 := Lib.hid key0
  have KEY1 := Lib.hid key1
  have KEY2 := Lib.hid key2
  have KEY3 := Lib.hid key3
  clear key0 key1 key2 key3
  go_enter Try.func8, Try.ntmps8
  go_wp2_with fail
  refine (KEY0.out _ _ (sl_new' (by decide) _ #[.int .i64 2, .int .i64 0, .int .i64 1, .int .i64 5, .int .i64 1, .int .i64 4] _ _ (by simp) rfl)).mono ?_
  rintro e w1 ⟨A1, c1, rfl, own1, hb1⟩
  have B1 : Below (w.heap.size + 1) (w.alloc (.cells #[.int .i64 a, .int .i64 b] 50)) w1 := ((Below.refl _ _).alloc (by simp) _).trans (hb1.mono (by simp))
  have Z1 : w.heap.size + 1 ≤ w1.heap.size := by have := hb1.size; simp at this; omega
  clear hb1
  go_wp2_with fail
  refine (KEY1.out _ _ _ _ _ _ (own1.alloc _).sl.2 (sl_new' (by decide) _ #[.int .i64 1, .int .i64 4, .int .i64 1, .int .i64 5, .int .i64 2, .int .i64 0] _ _ rfl rfl)).mono ?_
  rintro e w2 ⟨rfl, n2, rfl⟩
  have B2 := below_drewN (B1.alloc Z1 (.cells #[.int .i64 1, .int .i64 4, .int .i64 1, .int .i64 5, .int .i64 2, .int .i64 0] 50)) n2
  have Z2 : w.heap.size + 1 ≤ (w1.alloc (.cells #[.int .i64 1, .int .i64 4, .int .i64 1, .int .i64 5, .int .i64 2, .int .i64 0] 50)).heap.size := by simp; omega
  generalize (w1.alloc (.cells #[.int .i64 1, .int .i64 4, .int .i64 1, .int .i64 5, .int .i64 2, .int .i64 0] 50)) = w2 at B2 Z2 ⊢
  have H2 : Below w.heap.size w (w2.drewN n2) := hw0.trans (B2.mono (Nat.le_succ _))
  clear own1 B1 Z1
  go_wp2_with fail
  refine (KEY2.out _ ((hs.keep H2 (Nat.le_refl _)).more (by simp; omega))).mono ?_
  rintro e w3 ⟨A3, c3, M, rfl, own3, hpm, hsrt, hb3⟩
  have B3 := B2.trans (hb3.mono Z2)
  have Z3 : w.heap.size + 1 ≤ w3.heap.size := by have := hb3.size; simp at this; omega
  have H3 : Below w.heap.size w w3 := hw0.trans (B3.mono (Nat.le_succ _))
  have hml : M.length = l.length := hpm.length_eq
  have sl3 : Sl w3 w3.heap.size 2 cp A3 M := own3.sl.2
  have hcnt : ∀ y : Int × Int, l.count y = M.count y := fun y => (hpm.count_eq y).symm
  obtain ⟨cc3, _⟩ := keepAt B3 (Nat.lt_succ_self _)
  have q0 := cc3 0
  have q1 := cc3 1
  simp at q0 q1
  have HCNT := Lib.hid hcnt
  have HSRT := Lib.hid hsrt
  have HML := Lib.hid hml
  have hlen6 : l.length ≤ 8796093022207 := by omega
  clear hb3 cc3 B2 H2 Z2 own3 hpm hcnt hsrt hml
  go_wp2
  go_loopw [7] (fun i wr => ∃ j : Nat, (j ≤ l.length ∨ j = 0) ∧ i = .int .i64 ((j : Int) + 1) ∧ Below w3.heap.size w3 wr) (fun i _ => l.length + 1 - (intOf i).toNat)
  case atStart => exact ⟨0, .inr rfl, rfl, Below.refl _ _⟩
  case round =>
    obtain ⟨j, hj, rfl, hB⟩ := hrel
    by_cases hlt : j + 1 < l.length
    · have hlt' : j + 1 < M.length := by rw [HML.out]; exact hlt
      have hsr := srt_at HSRT.out hlt'
      have slr := sl3.keep hB (Nat.le_refl _)
      obtain ⟨bb, off, f, t, rfl, hbB, he, hcf, hct⟩ := sl_at2 slr hlt'
      obtain ⟨bb', off', f', t', hbe, _, he', hcf', hct'⟩ := sl_at2 slr (show j < M.length by omega)
      injection hbe with hbe
      injection hbe with hb1 hb2 _
      subst hb1 hb2
      rw [he, he'] at hsr
      simp only [ltP, decide_eq_false_iff_not] at hsr
      have x1 : (j : Int) + 1 < l.length := by omega
      have x2 : (j : Int) < l.length := by omega
      have hd1 : decide (f < f') = false := by rw [decide_eq_false_iff_not]; omega
      clear he he' slr hlt' hj
      by_cases hff : f = f'
      · subst hff
        have hd2 : decide (t < t') = false := by rw [decide_eq_false_iff_not]; omega
        clear hsr
        go_wp2
        go_quiet (fail)
        go_wp2
        go_roundw
        case rel => exact ⟨j + 1, by omega, by go_num, below_drewN hB _⟩
        case measure => simp [intOf]; omega
      · have hd2 : (f == f') = false := by rw [beq_eq_false_iff_ne]; exact hff
        clear hsr hff
        go_wp2
        go_quiet (fail)
        go_wp2
        go_roundw
        case rel => exact ⟨j + 1, by omega, by go_num, below_drewN hB _⟩
        case measure => simp [intOf]; omega
    · have hd : ¬ ((j : Int) + 1 < l.length) := by omega
      have Br := B3.trans (hB.mono Z3)
      have Hr := H3.trans (hB.mono (by omega))
      have Zr : w3.heap.size ≤ wr.heap.size := hB.size
      obtain ⟨cc, _⟩ := keepAt Br (Nat.lt_succ_self _)
      have r0 := cc 0
      have r1 := cc 1
      simp at r0 r1
      have slr := (sl3.keep hB (Nat.le_refl _)).more Zr
      have sll := (hs.keep Hr (Nat.le_refl _)).more (show w.heap.size ≤ wr.heap.size by omega)
      have ownx : Own (wr.alloc (.cells #[.int .i64 a, .int .i64 b] 50)) wr.heap.size 50 2 cp (.slice (some ⟨wr.heap.size, 0, none⟩) 1 1) [(a, b)] := own_new' wr _ _ rfl rfl (Nat.le_refl _) (by decide) rfl
      have slw := sll.keep ((Below.refl _ _).alloc (Nat.le_refl _) (.cells #[.int .i64 a, .int .i64 b] 50)) (Nat.le_refl _)
      clear cc q0 q1 hlt hj
      go_wp2_with (at_builtin; refine wpList_pushAll _ rfl (.tmp 72) (.tmp 73) _ rfl wr.heap.size 50 i0 _ 2 16 cp Try.underlying48 hi hz0 hz1 hz2 rfl (by decide) _ [(a, b)] 1 rfl rfl ownx wr.heap.size A l.length c l rfl rfl hnil slw one_cp (by omega) (by omega) (by simp) ?_; intro A4 c4 w4 hown4 hgrow4 hat4)
      have hB4 : Below wr.heap.size wr w4 := ((Below.refl _ _).alloc (Nat.le_refl _) _).grown hgrow4 (by simp) ownx.lo
      have sl4 := hown4.sl.2
      have slr4 := (slr.keep hB4 (Nat.le_refl _)).more hB4.size
      have sll4 := (sll.keep hB4 (Nat.le_refl _)).more hB4.size
      have H4 := Hr.trans (hB4.mono (by omega))
      clear hgrow4 hat4 hown4 ownx slw slr sll r0 r1 hB Br sl3 hs
      have key4 : ∀ W x y, Sl W W.heap.size 2 cp A3 M → Calls Try.prog 32 #[.slice A3 l.length c3, .agg #[.int .i64 x, .int .i64 y]] W fun e w' => e = .returned (.int .i64 (l.count (x, y) : Nat)) ∧ Below W.heap.size W w' := fun W x y h => by
        have k := count_any A3 c3 l.length M x y W h HML.out (by omega)
        rw [← HCNT.out] at k
        exact k
      have KEY4 := Lib.hid key4
      have SLR4 := Lib.hid slr4
      have SLL4 := Lib.hid sll4
      have hs1 : ((1 + l.length : Nat) : Int) = 1 + (l.length : Int) := by omega
      clear key4 slr4 sll4
      go_wp2
      go_loopw [76] (fun i wy => ∃ k : Nat, k ≤ 1 + l.length ∧ i = .int .i64 k ∧ Below w4.heap.size w4 wy) (fun i _ => 1 + l.length - (intOf i).toNat)
      case atStart => exact ⟨0, Nat.zero_le _, rfl, Below.refl _ _⟩
      case round =>
        obtain ⟨k, hk, rfl, hB7⟩ := hrel
        by_cases hlt : k < 1 + l.length
        · obtain ⟨bx, offx, f, t, rfl, hbX, _, hcf, hct⟩ := sl_at2 (sl4.keep hB7 (Nat.le_refl _)) (show k < ([(a, b)] ++ l).length by simp; omega)
          have z7 : w4.heap.size ≤ wr.heap.size := hB7.size
          have hE := hB7.alloc z7 (.cells #[.int .i64 f, .int .i64 t] 50)
          obtain ⟨wa, hwa⟩ : ∃ wa, wa = wr.alloc (.cells #[.int .i64 f, .int .i64 t] 50) := ⟨_, rfl⟩
          have c0 : wa.cell? ⟨wr.heap.size, 0, none⟩ = some (.int .i64 f) := by rw [hwa]; simp [go_sem]
          have c1 : wa.cell? ⟨wr.heap.size, 1, none⟩ = some (.int .i64 t) := by rw [hwa]; simp [go_sem]
          have hza : wr.heap.size < wa.heap.size := by rw [hwa]; simp
          rw [← hwa] at hE
          have hsl : ∀ W, Below wa.heap.size wa W → Sl W W.heap.size 2 cp A l ∧ Sl W W.heap.size 2 cp A3 M := fun W hW => by
            have h9 := hE.trans (hW.mono (by omega))
            exact ⟨(SLL4.out.keep h9 (Nat.le_refl _)).more h9.size, (SLR4.out.keep h9 (Nat.le_refl _)).more h9.size⟩
          have hx0 : Below wa.heap.size wa wa := Below.refl _ _
          have HSL := Lib.hid hsl
          have hk1 : (k : Int) < 1 + (l.length : Int) := by omega
          clear hsl
          go_upto_region 14 with fail
          rw [← hwa]
          clear hwa
          go_region_held3 (fun w' => w'.cell? ⟨wr.heap.size, 0, none⟩ = some (.int .i64 f) ∧ w'.cell? ⟨wr.heap.size, 1, none⟩ = some (.int .i64 t))
            (first
              | go_keep
              | (go_split_ands
                 refine ⟨?_, ?_⟩
                 · (rw [cE]; assumption)
                 · (rw [cE]; assumption)))
            (first
              | (go_at_call_of 32 A; refine (KEY3.out _ f t (HSL.out _ (by first | exact hxa | exact hxa.drew | exact hx0.drew | exact hx0)).1).mono ?_; rintro e wb ⟨rfl, hbb⟩; have hxb : Below wa.heap.size wa wb := (by first | exact hxa.trans (hbb.mono hxa.size) | exact hxa.drew.trans (hbb.mono hxa.size) | exact hx0.drew.trans (hbb.mono (Nat.le_refl _)) | exact hx0.trans (hbb.mono (Nat.le_refl _))); have hxa := hxb; have cE := (keepAt hxb (b := wr.heap.size) hza).1)
              | (go_at_call_of 32 A3; refine (KEY4.out _ f t (HSL.out _ (by first | exact hxa | exact hxa.drew | exact hx0.drew | exact hx0)).2).mono ?_; rintro e wb ⟨rfl, hbb⟩; have hxb : Below wa.heap.size wa wb := (by first | exact hxa.trans (hbb.mono hxa.size) | exact hxa.drew.trans (hbb.mono hxa.size) | exact hx0.drew.trans (hbb.mono (Nat.le_refl _)) | exact hx0.trans (hbb.mono (Nat.le_refl _))); have hxa := hxb; have cE := (keepAt hxb (b := wr.heap.size) hza).1))
          all_goals
            have hB8 := hE.trans (hxa.mono (by omega))
            clear hxa hxb hbb cE
            go_wp2
            go_roundw
            case' rel => exact ⟨k + 1, by omega, by go_num, hB8⟩
            case' measure => simp [intOf]; omega
        · obtain rfl : k = 1 + l.length := by omega
          have H9 := H4.trans (hB7.mono H4.size)
          clear sl4
          go_wp2
          go_ret
          exact ⟨by first | trivial | rfl | simp, H9⟩

theorem own : ownKnob Try.prog.godebug = none := by kernel_rfl
theorem laidOut : laidOutB Try.prog = true := by kernel_rfl

set_option maxRecDepth 100000 in
theorem lifted (os : Os) (started : os.Started) (H : Type) (enc : TypeId × Value → H) :
    ReturnsInHanded {} Try.checked os 8 .any (Rows.heapOrdersSpec.pre6 enc Try.prog Try.f8 Rows.heapOrdersRow.domain false) (Rows.heapOrdersSpec.post enc Try.prog Try.f8 false true false false) := by
  refine returnsInHanded_of_change_sized (C := Try.checked) own started (by kernel_rfl) Try.func8
    (ChangeSpec.witness6 (enc := enc) (C := Try.checked) false ⟨#[], #[.slice none 0 0, .agg #[.int .i64 0, .int .i64 0]], []⟩ 8 (by kernel_rfl) (by kernel_rfl) (by kernel_rfl) (by kernel_rfl)) ?_
  intro W base args ds gs before hval0 hW hcnd hsz0 _
  have hval : ∀ (j : Nat) t v, Try.f8.params[j]? = some t → args[j]? = some v → Value.okWide Try.prog W .any base t v := hval0
  have hW' := hW
  obtain ⟨p, q, hA0, hV, rfl, hfz, hnd⟩ := hW
  have hA : DataW.TrodAll enc Try.prog W 0 (fun _ => true) true Try.f8.params.toList args.toList ds p := hA0
  have hsz : (DataW.weightsEach Try.prog (Try.f8.params.toList ++ Rows.heapOrdersSpec.plain.varTypes Try.prog) (ds ++ gs)).all (· ≤ reachBytes) = true := hsz0
  rw [Try.params8] at hsz
  rw [Try.params8] at hA hval
  obtain ⟨v0, vs0, d0, ds0, p0, q0, hargs, rfl, rfl, h0, r0⟩ := trodAll_cons hA
  obtain ⟨v1, vs1, d1, ds1, p1, q1, rfl, rfl, rfl, h1, r1⟩ := trodAll_cons r0
  obtain ⟨rfl, rfl, rfl⟩ := trodAll_nil r1
  obtain rfl : args = #[v0, v1] := by cases args; simp_all
  obtain ⟨rfl, rfl⟩ := trodVars_none hV
  obtain ⟨A0, c0, l0, rfl, hG0, hd0, hb0⟩ := open_sl2 Try.underlying48 Try.underlying50 (by kernel_rfl) (by kernel_rfl) Try.underlying3 Try.underlying3 (hval 0 48 v0 rfl rfl) h0
  obtain ⟨a1, b1, rfl, rfl, rfl, ha1, hb1⟩ := open_ii Try.underlying50 (by kernel_rfl) (by kernel_rfl) Try.underlying3 Try.underlying3 (hval 1 50 v1 rfl rfl) h1
  refine (walk W A0 c0 l0 hG0 a1 b1 ha1 hb1 (sized_len hsz 16 (j := 0) rfl rfl Try.underlying48 (by kernel_rfl) hd0)).mono fun e W' ⟨he, hB⟩ => ?_
  subst he
  exact ⟨_, rfl, post_of_law laidOut rfl Try.underlying4 rfl (by intro t ht; rw [Try.params8] at ht; simp at ht; rcases ht with rfl | rfl <;> exact ⟨by kernel_rfl, of_decide_eq_true (by kernel_rfl)⟩) hW' rfl hB⟩

theorem holds : Rows.HeapOrdersSaid :=
  OpenClaim.holds_of_wide 8 Try.f8 rfl rfl rfl rfl rfl rfl rfl ⟨rfl, rfl, rfl, rfl, rfl⟩ rfl rfl rfl rfl rfl (by kernel_rfl) Try.func8 (by kernel_rfl)
    (of_decide_eq_true (by kernel_rfl)) (by unfold Func.isWrapper; first | (rw [if_pos (by decide +kernel)]; kernel_rfl) | (rw [if_neg (by decide +kernel)]; exact ⟨rfl, rfl⟩))
    (fun os started H enc _ => lifted os started H enc)
#print axioms holds
end Go.Proofs.Ythlhlglmkcbgaaa.HeapOrdersLaw
