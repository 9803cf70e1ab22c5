/- For every two lists and number: HeapLeast answers true (the least of two lists together are among the least of each), and the arguments read as before. Condition: the form's bound on the sum of the lists' lengths. -/
import Derived.Test.YtdgglgiafmndnaaRows
import Derived.Test.YtdgglgiafmndnaaOpen
import Derived.Test.YtdgglgiafmndnaaLeastWalk
import Derived.Test.YtdgglgiafmndnaaConcatPop
import Derived.Test.YtdgglgiafmndnaaBulk
import Derived.BigRegion
import Derived.BigQuiet
namespace Go.Proofs.Ytdgglgiafmndnaa.HeapLeastLaw
open Go.ChangeShapes Go.WideShapes Go.ChangeAt Go.RowKit Go.Proofs.Ytdgglgiafmndnaa HeapLaw LeastLaw Go.Proofs.Ytdgglgiafmndnaa.Heap Go.Proofs.Ytdgglgiafmndnaa.Std
set_option linter.unusedSimpArgs false
set_option linter.unusedVariables false

theorem first_least {R : List (Int × Int)} (h : IsLeast ltP 1 [(2, 0), (1, 0)] R) : R = [(1, 0)] :=
  h.unique ltP_ord ltP_anti' ⟨by decide, rfl, [(2, 0)], by decide, by decide⟩
  where ltP_anti' : ∀ {a b : Int × Int}, ltP a b = false → ltP b a = false → a = b := fun h1 h2 => ltP_anti h1 h2
theorem all_one {n : Nat} {l m a b c d : List (Int × Int)} (ha : IsLeast ltP n l a) (hb : IsLeast ltP n m b) (hc : IsLeast ltP n (l ++ m) c) (hd : IsLeast ltP n (a ++ b) d) : c = d :=
  hc.unique ltP_ord (fun h1 h2 => ltP_anti h1 h2) (ha.both ltP_ord hb hd)
/-- two slices laid for Concat -/
theorem concat_here (A A' : Option Addr) (n m c1 c2 : Nat) (l r : List (Int × Int)) (w : World)
    (hl : Sl w w.heap.size 2 cp A l) (hr : Sl w w.heap.size 2 cp A' r) (hln : l.length = n) (hrm : r.length = m) (hA : A = none → n = 0 ∧ c1 = 0) (hA' : A' = none → m = 0 ∧ c2 = 0) (hsz : (n + m) * 16 ≤ 140737488355328) :
    Calls Try.prog 40 #[.slice (some ⟨w.heap.size, 0, none⟩) 2 2] (w.alloc (.cells #[.slice A n c1, .slice A' m c2] 65)) fun e w' => ∃ A5 c5, e = .returned (.slice A5 (n + m) c5) ∧ Own w' w.heap.size 69 2 cp (.slice A5 (n + m) c5) (l ++ r) ∧ Below w.heap.size w w' := by
  have hB : Below w.heap.size w (w.alloc (.cells #[.slice A n c1, .slice A' m c2] 65)) := (Below.refl _ _).alloc (Nat.le_refl _) _
  have hz : w.heap.size ≤ (w.alloc (.cells #[.slice A n c1, .slice A' m c2] 65)).heap.size := by simp
  refine (concat2 w.heap.size 2 A A' n m c1 c2 l r _ (by simp) (by simp) (by simp) ((hl.keep hB (Nat.le_refl _)).more hz) ((hr.keep hB (Nat.le_refl _)).more hz) hln hrm hA hA' hsz).mono ?_
  rintro e w' ⟨A5, c5, he, ho, hb⟩
  exact ⟨A5, c5, he, ho.mono hz, hB.trans (hb.mono hz)⟩

set_option maxRecDepth 100000 in
set_option maxHeartbeats 4000000 in
theorem walk (w : World) (A : Option Addr) (c : Nat) (l : List (Int × Int)) (hA : Arg w 2 cp A c l) (Am : Option Addr) (cm : Nat) (m : List (Int × Int)) (hAm : Arg w 2 cp Am cm m) (a : Int) (ha : -9223372036854775808 ≤ a ∧ a ≤ 9223372036854775807) (hbulk : l.length + m.length ≤ 1048576) :
    Calls Try.prog 8 #[.slice A l.length c, .slice Am m.length cm, .int .i64 a] w fun e w' => e = .returned (.bool true) ∧ Below w.heap.size w w' := by
  have hs := hA.sl
  have hnil := hA.nil
  have hm := hAm.sl
  have hmnil := hAm.nil
  clear hA hAm
  have key0 : ∀ (W : World) (g : Nat), Sl W W.heap.size 2 cp (some ⟨g, 0, none⟩) [(2, 0), (1, 0)] → Calls Try.prog 38 #[.slice (some ⟨g, 0, none⟩) 2 2, .int .i64 1] W fun e w' => ∃ A c, e = .returned (.tuple #[.slice A 1 c, .int .i64 0]) ∧ Own w' W.heap.size 69 2 cp (.slice A 1 c) [(1, 0)] ∧ Below W.heap.size W w' := fun W g h => by
    refine (least_yes (some ⟨g, 0, none⟩) 2 2 1 [(2, 0), (1, 0)] W h rfl (by decide) (by decide)).mono ?_
    rintro e w' ⟨A, c, R, he, ho, hl, hb⟩
    obtain rfl := first_least hl
    exact ⟨A, c, he, ho, hb⟩
  have key1 : ∀ (W : World) (A : Option Addr) (c g B B' : Nat), Sl W B 2 cp A [(1, 0)] → Sl W B' 2 cp (some ⟨g, 0, none⟩) [(1, 0)] → Calls Try.prog 39 #[.slice A 1 c, .slice (some ⟨g, 0, none⟩) 1 1] W fun e w' => e = .returned (.bool true) ∧ ∃ k, w' = W.drewN k :=
    fun W A c g B B' h h' => equal_pop' A (some ⟨g, 0, none⟩) 1 1 c 1 _ _ B B' W h h' rfl rfl (by decide) true (by decide)
  have key2 := fun W h1 h2 => concat_here A Am l.length m.length c cm l m W h1 h2 rfl rfl hnil hmnil (by omega)
  have KEY0 := Lib.hid key0
  have KEY1 := Lib.hid key1
  have KEY2 := Lib.hid key2
  clear key0 key1 key2
  by_cases hneg : a < 0
  · have key3 := fun A c m W => least_no A c m a W hneg
    have key4 := fun W => concat_here none none 0 0 0 0 [] [] W Sl.nil Sl.nil rfl rfl (fun _ => ⟨rfl, rfl⟩) (fun _ => ⟨rfl, rfl⟩) (by decide)
    have KEY3 := Lib.hid key3
    have KEY4 := Lib.hid key4
    clear key3 key4
    go_enter Try.func8, Try.ntmps8
    go_wp2_with fail
    refine (KEY0.out _ _ (sl_new' (by decide) _ #[.int .i64 2, .int .i64 0, .int .i64 1, .int .i64 0] _ _ (by simp) rfl)).mono ?_
    rintro e w1 ⟨A1', c1', rfl, own1, hb1⟩
    have B1 : Below w.heap.size w w1 := ((Below.refl _ _).alloc (Nat.le_refl _) _).trans (hb1.mono (by simp))
    clear hb1
    go_wp2_with fail
    refine (KEY1.out _ _ _ _ _ _ (own1.alloc _).sl.2 (sl_new' (by decide) _ #[.int .i64 1, .int .i64 0] _ _ rfl rfl)).mono ?_
    rintro e w2 ⟨rfl, n2, rfl⟩
    have B2 := below_drewN (B1.alloc B1.size (.cells #[.int .i64 1, .int .i64 0] 69)) n2
    generalize (w1.alloc (.cells #[.int .i64 1, .int .i64 0] 69)) = w2 at B2 ⊢
    clear own1 B1
    have Z2 : w.heap.size ≤ (w2.drewN n2).heap.size := B2.size
    go_wp2_with fail
    refine (KEY3.out _ _ _ _).mono ?_
    rintro e w3 ⟨rfl, hb3⟩
    have B3 := B2.trans (hb3.mono Z2)
    clear hb3 B2
    go_wp2_with fail
    refine (KEY3.out _ _ _ _).mono ?_
    rintro e w4 ⟨rfl, hb4⟩
    have B4 := B3.trans (hb4.mono B3.size)
    clear hb4 B3
    go_wp2_with fail
    refine (KEY2.out _ ((hs.keep B4 (Nat.le_refl _)).more B4.size) ((hm.keep B4 (Nat.le_refl _)).more B4.size)).mono ?_
    rintro e w5 ⟨A5, c5, rfl, own5, hb5⟩
    have B5 := B4.trans (hb5.mono B4.size)
    clear hb5 B4 own5
    go_wp2_with fail
    refine (KEY3.out _ _ _ _).mono ?_
    rintro e w6 ⟨rfl, hb6⟩
    have B6 := B5.trans (hb6.mono B5.size)
    clear hb6 B5
    go_wp2_with fail
    refine (KEY4.out _).mono ?_
    rintro e w7 ⟨A7, c7, rfl, own7, hb7⟩
    have B7 := B6.trans (hb7.mono B6.size)
    clear hb7 B6 own7
    go_wp2_with fail
    refine (KEY3.out _ _ _ _).mono ?_
    rintro e w8 ⟨rfl, hb8⟩
    have B8 := B7.trans (hb8.mono B7.size)
    clear hb8 B7 hs hm
    go_wp2
    go_ret
    exact ⟨by first | trivial | rfl, B8⟩
  · obtain ⟨n, rfl⟩ := Int.eq_ofNat_of_zero_le (show 0 ≤ a by omega)
    have hn63 : n ≤ 9223372036854775807 := by omega
    have key3 := fun A c m (x : List (Int × Int)) W h1 h2 h3 => least_yes A c m n x W h1 h2 h3 hn63
    have KEY3 := Lib.hid key3
    clear key3 hneg
    go_enter Try.func8, Try.ntmps8
    go_wp2_with fail
    refine (KEY0.out _ _ (sl_new' (by decide) _ #[.int .i64 2, .int .i64 0, .int .i64 1, .int .i64 0] _ _ (by simp) rfl)).mono ?_
    rintro e w1 ⟨A1', c1', rfl, own1, hb1⟩
    have B1 : Below w.heap.size w w1 := ((Below.refl _ _).alloc (Nat.le_refl _) _).trans (hb1.mono (by simp))
    clear hb1
    go_wp2_with fail
    refine (KEY1.out _ _ _ _ _ _ (own1.alloc _).sl.2 (sl_new' (by decide) _ #[.int .i64 1, .int .i64 0] _ _ rfl rfl)).mono ?_
    rintro e w2 ⟨rfl, n2, rfl⟩
    have B2 := below_drewN (B1.alloc B1.size (.cells #[.int .i64 1, .int .i64 0] 69)) n2
    generalize (w1.alloc (.cells #[.int .i64 1, .int .i64 0] 69)) = w2 at B2 ⊢
    clear own1 B1
    have Z2 : w.heap.size ≤ (w2.drewN n2).heap.size := B2.size
    go_wp2_with fail
    refine (KEY3.out A c l.length l _ ((hs.keep B2 (Nat.le_refl _)).more Z2) rfl (by omega)).mono ?_
    rintro e w3 ⟨A3, c3, R3, rfl, own3, le3, hb3⟩
    have B3 := B2.trans (hb3.mono Z2)
    have hl3 : R3.length ≤ l.length := by have := le3.len; omega
    obtain ⟨_, _, hv, _, nil3⟩ := own3.form
    injection hv with hv1 hv2 hv3
    subst hv1 hv3
    have LE3 := Lib.hid le3
    have sl3 := own3.sl.2
    clear hb3 B2 le3 own3
    go_wp2_with fail
    refine (KEY3.out Am cm m.length m _ ((hm.keep B3 (Nat.le_refl _)).more B3.size) rfl (by omega)).mono ?_
    rintro e w4 ⟨A4, c4, R4, rfl, own4, le4, hb4⟩
    have B4 := B3.trans (hb4.mono B3.size)
    have hl4 : R4.length ≤ m.length := by have := le4.len; omega
    obtain ⟨_, _, hv', _, nil4⟩ := own4.form
    injection hv' with hv1 hv2 hv3
    subst hv1 hv3
    have LE4 := Lib.hid le4
    have sl4 := own4.sl.2
    have sl34 := (sl3.keep hb4 (Nat.le_refl _)).more hb4.size
    clear hb4 B3 le4 own4 sl3
    go_wp2_with fail
    refine (KEY2.out _ ((hs.keep B4 (Nat.le_refl _)).more B4.size) ((hm.keep B4 (Nat.le_refl _)).more B4.size)).mono ?_
    rintro e w5 ⟨A5, c5, rfl, own5, hb5⟩
    have B5 := B4.trans (hb5.mono B4.size)
    have sl35 := (sl34.keep hb5 (Nat.le_refl _)).more hb5.size
    have sl45 := (sl4.keep hb5 (Nat.le_refl _)).more hb5.size
    have sl5 := own5.sl.2
    clear hb5 B4 own5 sl34 sl4
    go_wp2_with fail
    refine (KEY3.out A5 c5 (l.length + m.length) (l ++ m) _ sl5 (by simp) (by omega)).mono ?_
    rintro e w6 ⟨A6, c6, R6, rfl, own6, le6, hb6⟩
    have B6 := B5.trans (hb6.mono B5.size)
    have sl36 := (sl35.keep hb6 (Nat.le_refl _)).more hb6.size
    have sl46 := (sl45.keep hb6 (Nat.le_refl _)).more hb6.size
    have sl6 := own6.sl.2
    have LE6 := Lib.hid le6
    clear hb6 B5 own6 sl35 sl45 sl5 le6
    have NIL3 := Lib.hid nil3
    have NIL4 := Lib.hid nil4
    clear nil3 nil4
    go_wp2_with fail
    refine (concat_here _ _ R3.length R4.length _ _ R3 R4 w6 sl36 sl46 rfl rfl NIL3.out NIL4.out (by omega)).mono ?_
    rintro e w7 ⟨A7, c7, rfl, own7, hb7⟩
    have B7 := B6.trans (hb7.mono B6.size)
    have sl67 := (sl6.keep hb7 (Nat.le_refl _)).more hb7.size
    have sl7 := own7.sl.2
    clear hb7 B6 own7 sl6 sl36 sl46
    go_wp2_with fail
    refine (KEY3.out A7 c7 (R3.length + R4.length) (R3 ++ R4) _ sl7 (by simp) (by omega)).mono ?_
    rintro e w8 ⟨A8, c8, R8, rfl, own8, le8, hb8⟩
    have B8 := B7.trans (hb8.mono B7.size)
    have sl68 := (sl67.keep hb8 (Nat.le_refl _)).more hb8.size
    have sl8 := own8.sl.2
    have heq := all_one LE3.out LE4.out LE6.out le8
    subst heq
    have hl6 : R6.length ≤ l.length + m.length := by have := LE6.out.len; rw [List.length_append] at this; omega
    have keq := equal_pop' A6 A8 R6.length R6.length c6 c8 R6 R6 _ _ w8 sl68 sl8 rfl rfl (by omega) true (by simp)
    have KEQ := Lib.hid keq
    clear hb8 B7 own8 sl67 sl7 le8 keq sl68 sl8 hs hm LE3 LE4
    go_wp2_with fail
    refine KEQ.out.mono ?_
    rintro e w9 ⟨rfl, k9, rfl⟩
    have B9 := below_drewN B8 k9
    clear B8
    go_wp2
    go_ret
    exact ⟨by first | trivial | rfl, B9⟩

theorem own : ownKnob Try.prog.godebug = none := by kernel_rfl
theorem laidOut : laidOutB Try.prog = true := by kernel_rfl

set_option maxRecDepth 100000 in
theorem contract (H : Type) (enc : TypeId × Value → H) (W : World) (base : Nat) (args : Array Value) (ds gs : List (DataW H)) (before : List MemPlace)
    (hval0 : ∀ (j : Nat) t v, Try.f8.params[j]? = some t → args[j]? = some v → Value.okWide Try.prog W .any base t v)
    (hW : DataW.Whole enc Try.prog Try.f8.params.toList Rows.heapLeastSpec.vars false W args.toList ds gs before) (hk : Rows.uptoSmall H (ds ++ gs) = true) :
    Calls Try.prog 8 args W fun e W' => ∃ v, e = .returned v ∧ Rows.heapLeastSpec.post enc Try.prog Try.f8 false true false false W args v W' := by
  have hval : ∀ (j : Nat) t v, Try.f8.params[j]? = some t → args[j]? = some v → Value.okWide Try.prog W .any base t v := hval0
  have hW' := hW
  obtain ⟨p, q, hA0, hV, rfl, hfz, hnd⟩ := hW
  have hA : DataW.TrodAll enc Try.prog W 0 (fun _ => true) true Try.f8.params.toList args.toList ds p := hA0
  rw [Try.params8] at hA hval
  obtain ⟨v0, vs0, d0, ds0, p0, q0, hargs, rfl, rfl, h0, r0⟩ := trodAll_cons hA
  obtain ⟨v1, vs1, d1, ds1, p1, q1, rfl, rfl, rfl, h1, r1⟩ := trodAll_cons r0
  obtain ⟨v2, vs2, d2, ds2, p2, q2, rfl, rfl, rfl, h2, r2⟩ := trodAll_cons r1
  obtain ⟨rfl, rfl, rfl⟩ := trodAll_nil r2
  obtain rfl : args = #[v0, v1, v2] := by cases args; simp_all
  obtain ⟨rfl, rfl⟩ := trodVars_none hV
  obtain ⟨A0, c0, l0, rfl, hG0, hd0, hb0⟩ := open_sl2 Try.underlying65 Try.underlying69 (by kernel_rfl) (by kernel_rfl) Try.underlying3 Try.underlying3 (hval 0 65 v0 rfl rfl) h0
  obtain ⟨A1, c1, l1, rfl, hG1, hd1, hb1⟩ := open_sl2 Try.underlying65 Try.underlying69 (by kernel_rfl) (by kernel_rfl) Try.underlying3 Try.underlying3 (hval 1 65 v1 rfl rfl) h1
  obtain ⟨a2, rfl, rfl, rfl, wa2⟩ := open_int Try.underlying3 (hval 2 3 v2 rfl rfl) h2
  have hbulk := bulk_bound hk
  simp only [List.cons_append, List.nil_append, List.append_nil, Rows.uptoBulkAll] at hbulk
  have hq0 := bulk_len hd0
  have hq1 := bulk_len hd1
  refine (walk W A0 c0 l0 hG0 A1 c1 l1 hG1 a2 (wf_bd wa2) (by omega)).mono fun e W' ⟨he, hB⟩ => ?_
  subst he
  exact ⟨_, rfl, post_of_law laidOut rfl Try.underlying4 rfl (by intro t ht; rw [Try.params8] at ht; simp at ht; rcases ht with rfl | rfl | rfl <;> exact ⟨by kernel_rfl, of_decide_eq_true (by kernel_rfl)⟩) hW' rfl hB⟩

set_option maxRecDepth 100000 in
theorem lifted (os : Os) (started : os.Started) (H : Type) (enc : TypeId × Value → H) (F : Stop.Interp) :
    ReturnsInHanded {} Try.checked os 8 .any ((Rows.OpenSpec.upto Rows.heapLeastSpec).pre6 enc Try.prog Try.f8 Rows.heapLeastUptoRow.domain false) (((Rows.OpenSpec.upto Rows.heapLeastSpec).at F).post enc Try.prog Try.f8 false true false false) := by
  refine returnsInHanded_of_cond (C := Try.checked) (s := Rows.OpenSpec.upto Rows.heapLeastSpec) (k := Rows.uptoSmall) rfl own started (by kernel_rfl) Try.func8
    (OpenSpec.witness (enc := enc) (C := Try.checked) (s := Rows.OpenSpec.upto Rows.heapLeastSpec) (k := Rows.uptoSmall) rfl false ⟨#[], #[.slice none 0 0, .slice none 0 0, .int .i64 0], []⟩ 8 (by kernel_rfl) (by kernel_rfl) (by kernel_rfl)
      (x := ([.nil, .nil, .lit (.int .i64 0)], [], [])) (by kernel_rfl) rfl (by kernel_rfl)) ?_
  intro W base args ds gs before hval hW _ hk _
  exact contract H enc W base args ds gs before hval hW hk

theorem holds : Rows.HeapLeastUptoSaid :=
  OpenClaim.holds_of_cond 8 Try.f8 rfl rfl rfl rfl rfl rfl rfl ⟨rfl, rfl, rfl, rfl, rfl⟩ rfl rfl rfl rfl rfl (by kernel_rfl) Try.func8 (by kernel_rfl)
    (of_decide_eq_true (by kernel_rfl)) (by unfold Func.isWrapper; first | (rw [if_pos (by decide +kernel)]; kernel_rfl) | (rw [if_neg (by decide +kernel)]; exact ⟨rfl, rfl⟩))
    (fun os started H enc _ F => lifted os started H enc F)
#print axioms holds
end Go.Proofs.Ytdgglgiafmndnaa.HeapLeastLaw
