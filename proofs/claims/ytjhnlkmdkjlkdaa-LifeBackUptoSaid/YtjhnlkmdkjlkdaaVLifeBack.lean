/- For every net, two places and pairs: LifeBack answers true (changes that are taken back leave the way as it was, and no place is settled more than twice), and the arguments read as before. The condition is the size of the arguments: together 2^20 elements at most. -/
import Derived.Test.YtjhnlkmdkjlkdaaRows
import Derived.Test.YtjhnlkmdkjlkdaaVOpen
import Derived.Test.YtjhnlkmdkjlkdaaVBulk
import Derived.Test.YtjhnlkmdkjlkdaaVLifeUse
import Derived.Test.YtjhnlkmdkjlkdaaVLifeLoop
import Derived.Test.YtjhnlkmdkjlkdaaVRefs
import Derived.Test.YtjhnlkmdkjlkdaaVUnionOf
import Derived.Deep.RegionHeld3
namespace Go.Proofs.Ytjhnlkmdkjlkdaa.LifeBackLaw
open Go.ChangeShapes Go.WideShapes Go.ChangeAt Go.RowKit Go.Proofs.Ytjhnlkmdkjlkdaa NetLaw FlowLaw LifeLaw Go.Proofs.Ytjhnlkmdkjlkdaa.Net Go.Proofs.Ytjhnlkmdkjlkdaa.Life Go.Proofs.Ytjhnlkmdkjlkdaa.Std Go.Proofs.Ytjhnlkmdkjlkdaa.Refs
set_option linter.unusedSimpArgs false
set_option linter.unusedVariables false

set_option maxRecDepth 100000 in
set_option maxHeartbeats 8000000 in
theorem walk (w : World) (N : Int) (A : Option Addr) (c : Nat) (l : List E) (hA : Arg w 3 ce A c l) (a : Int) (ha : -9223372036854775808 ≤ a ∧ a ≤ 9223372036854775807) (b : Int) (hb : -9223372036854775808 ≤ b ∧ b ≤ 9223372036854775807) (A2 : Option Addr) (c2 : Nat) (ps : List (Int × Int)) (hA2 : Arg w 2 cp A2 c2 ps)
    (hbulk : l.length + ps.length ≤ 1048576) :
    Calls Try.prog 9 #[.agg #[.int .i64 N, .slice A l.length c], .int .i64 a, .int .i64 b, .slice A2 ps.length c2] w fun e w' => e = .returned (.bool true) ∧ Below w.heap.size w w' := by
  have hs := hA.sl
  have hnil := hA.nil
  have hps := hA2.sl
  have hll : l.length ≤ 9223372036854775807 := Nat.le_trans hA.cap hA.max
  have hpl : ps.length ≤ 1048576 := by omega
  clear hA hA2 ha hb hbulk
  have hw0 : Below w.heap.size w (w.alloc (.cells #[.int .i64 N, .slice A l.length c] 24)) := (Below.refl _ _).alloc (Nat.le_refl _) _
  have hkeep : ∀ W, Below (w.heap.size + 1) (w.alloc (.cells #[.int .i64 N, .slice A l.length c] 24)) W → (W.cell? ⟨w.heap.size, 0, none⟩ = some (.int .i64 N) ∧ W.cell? ⟨w.heap.size, 1, none⟩ = some (.slice A l.length c)) ∧ w.heap.size < W.heap.size ∧ Sl W W.heap.size 3 ce A l ∧ Below w.heap.size w W := fun W hW => by
    obtain ⟨cc, _⟩ := keepAt hW (Nat.lt_succ_self _)
    have q0 := cc 0
    have q1 := cc 1
    simp at q0 q1
    have H := hw0.trans (hW.mono (Nat.le_succ _))
    have hz := hW.size
    simp at hz
    exact ⟨⟨q0, q1⟩, by omega, (hs.keep H (Nat.le_refl _)).more H.size, H⟩
  have HK := Lib.hid hkeep
  clear hkeep hw0
  go_enter Try.func9, Try.ntmps9
  go_wp2_with fail
  refine (two_any _).mono ?_
  rintro e w1 ⟨g, rfl, own1, hb1⟩
  have B1 : Below (w.heap.size + 1) (w.alloc (.cells #[.int .i64 N, .slice A l.length c] 24)) w1 := hb1.mono (by simp)
  have Z1 : w.heap.size + 1 ≤ w1.heap.size := by have := hb1.size; simp at this; omega
  have kn := new_pln 2 1 0 (some ⟨g, 0, none⟩) 1 [(0, 1, 5)] w1 own1.sl.2 (fun h => (nomatch h)) (by decide)
  have KN := Lib.hid kn
  clear hb1 kn own1
  go_wp2_with fail
  refine KN.out.mono ?_
  rintro e w2 ⟨P0, rfl, HP0⟩
  have B2 := B1.trans (HP0.out.lo.mono Z1)
  have Z2 : w.heap.size + 1 ≤ w2.heap.size := by have := HP0.out.lo.size; omega
  have kw := way_pln HP0.out (by omega)
  have KW0 := Lib.hid kw
  clear kw KN
  go_wp2_with fail
  refine KW0.out.mono ?_
  rintro e w3 ⟨A3, k3, c3, co3, er3, wk3, rfl, HP3, _, _, hz3, HW3⟩
  obtain rfl := none_two HW3.out
  have B3 := B1.trans (HP3.out.lo.mono Z1)
  have Z3 : w.heap.size + 1 ≤ w3.heap.size := by omega
  clear HP0 HP3 B2 Z2 KW0 HW3 hz3 B1 Z1
  have B4 := B3.alloc Z3 (.cells #[.slice A3 k3 c3, .int .i64 co3] 48)
  obtain ⟨⟨q0, q1⟩, zq, sg, H4⟩ := HK.out _ B4
  have HB4 := Lib.hid B4
  clear B3 B4 H4
  go_upto_region 7 with fail
  have Z4 : w.heap.size + 1 ≤ (w3.alloc (.cells #[.slice A3 k3 c3, .int .i64 co3] 48)).heap.size := by simp; omega
  generalize w3.alloc (.cells #[.slice A3 k3 c3, .int .i64 co3] 48) = W5 at q0 q1 zq sg HB4 Z4 ⊢
  clear Z3
  by_cases hx : Dijk.look N l [a, b] = 0
  · obtain ⟨hg, hc, ⟨f0, f1⟩, t0, t1⟩ := DijkWay.looks_zero hx
    have hlo := hg.lo
    have hhi := hg.hi
    have h6 := hg.len
    obtain ⟨n, rfl⟩ := Int.eq_ofNat_of_zero_le (show 0 ≤ N by omega)
    obtain ⟨s, rfl⟩ := Int.eq_ofNat_of_zero_le f0
    obtain ⟨t, rfl⟩ := Int.eq_ofNat_of_zero_le t0
    have kn := new_pln n s t A c l W5 sg hnil hx
    have hcc : ∀ k, k < l.length → 1 ≤ cpt l k ∧ cpt l k ≤ 10000 := fun k hk => ⟨hc _ (ed_mem hk), (hg.cost _ (ed_mem hk)).2⟩
    have KN := Lib.hid kn
    have HC := Lib.hid hcc
    clear kn hg hc hx hlo f0 f1 t0 t1 hll hnil sg hcc
    go_wp2_with fail
    refine KN.out.mono ?_
    rintro e w6 ⟨P, rfl, HP6⟩
    have kw := way_pln HP6.out (by omega)
    have KWY := Lib.hid kw
    clear kw KN q0 q1 zq
    go_wp2_with fail
    refine KWY.out.mono ?_
    rintro e w7 ⟨A7, k7, c7, co7, er7, wk7, rfl, HP7, _, _, hz7, HW7⟩
    have hp8 := HP7.out.keep ((Below.refl _ _).alloc (Nat.le_refl _) (.cells #[.slice A7 k7 c7, .int .i64 co7] 48))
    have hz8 := heap_alloc_new w7 (.cells #[.slice A7 k7 c7, .int .i64 co7] 48)
    go_upto_region 11 with fail
    generalize w7.alloc (.cells #[.slice A7 k7 c7, .int .i64 co7] 48) = w8 at hp8 hz8 ⊢
    generalize w7.heap.size = Z at hz8 ⊢
    have HP8 := Lib.hid hp8
    have HZ8 := Lib.hid hz8
    clear hp8 hz8 HP6 HP7 hz7 KWY
    go_wp2
    go_loopw [66] (fun i wr => ∃ (k : Nat) (l' : List E) (m : Nat) (wk : Int), k ≤ ps.length ∧ i = .int .i64 k ∧ Hid (Pln W5 wr n s t P l' m wk) ∧ m ≤ 80001 + k ∧ Hid (Life.Ends l' l) ∧ Hid (wr.heap[Z]? = some (.cells #[.slice A7 k7 c7, .int .i64 co7] 48 (0, 0)))) (fun i _ => ps.length - (intOf i).toNat)
    case atStart => exact ⟨0, l, 1 + 80000, wk7, Nat.zero_le _, rfl, HP8, by omega, Lib.hid (Life.Ends.refl l), HZ8⟩
    case round =>
      clear HP8 HZ8
      obtain ⟨k, l', m, wk, hk, rfl, HP, hm, HE, HZ⟩ := hrel
      have B9 := HB4.out.trans (HP.out.lo.mono Z4)
      by_cases hlt : k < ps.length
      · obtain ⟨_, zz, _, HB⟩ := HK.out _ B9
        obtain ⟨bb, off, x, y, rfl, hbb, he, hcx, hcy⟩ := Go.Proofs.Ytjhnlkmdkjlkdaa.Union.Sl.atP (hps.keep HB (Nat.le_refl _)) hlt
        have hbz : bb < wr.heap.size := by have := HB.size; omega
        have kst := set_pln (HP.out.keep ((Below.refl _ _).alloc (Nat.le_refl _) (.cells #[.int .i64 x, .int .i64 y] 61))) (by omega) x y
        have hzz := blk_alloc HZ.out (.cells #[.int .i64 x, .int .i64 y] 61)
        have KST := Lib.hid kst
        have HZZ := Lib.hid hzz
        clear kst he HB B9 hzz
        go_wp2_with fail
        refine KST.out.mono ?_
        rintro e w3 ⟨rfl, HP3, HK3, hz3⟩
        have HZ3 := Lib.hid (HK3.out _ _ _ HZZ.out)
        have HE3 := Lib.hid (HE.out.edt x y)
        generalize serr l' x y = er0 at *
        clear HK3 hcx hcy KST
        go_wp2
        go_roundw
        case rel => exact ⟨k + 1, _, m + 1, wk, by omega, by go_num, HP3, by omega, HE3, HZ3⟩
        case measure => simp [intOf]; omega
      · obtain rfl : k = ps.length := by omega
        have kw := way_pln HP.out (by omega)
        have KWY := Lib.hid kw
        clear kw B9
        go_wp2_with fail
        refine KWY.out.mono ?_
        rintro e w9 ⟨A9, k9, c9, co9, er9, wk9, rfl, HP9, HWK9, HK9, hz9, _⟩
        have HZ9 := Lib.hid (HK9.out _ _ _ HZ.out)
        have B9 := HB4.out.trans (HP9.out.lo.mono Z4)
        obtain ⟨⟨q0, q1⟩, zq, sg, _⟩ := HK.out _ B9
        have kwk := fun (W : World) (h : Pln W5 W n s t P l' (m + 80000) wk9) => work_pln h
        have kwd := kwk w9.drew (HP9.out.keep (Below.refl _ _).drew)
        have hwk9 := HWK9.out
        have wm : IntKind.i64.wrap (2 * (n : Int)) = 2 * (n : Int) := IntWalk.i64_in _ (by omega)
        have hd : decide (wk9 > 2 * (n : Int)) = false := decide_eq_false (by omega)
        have KWD := Lib.hid kwd
        have hs0 : w9.drew.cell? ⟨w.heap.size, 0, none⟩ = some (.int .i64 n) := q0
        clear kwk kwd hwk9 HWK9 HP HZ HK9 KWY sg
        go_upto_region 17 with fail
        go_region_held3 (fun w' => w'.cell? ⟨w.heap.size, 0, none⟩ = some (.int .i64 n)) (first | go_keep | exact hs0) (first | (go_at_call 34; refine KWD.out.mono ?_; rintro e wx ⟨rfl, hwx⟩; have hwx' := hwx.symm; clear hwx; subst hwx'))
        have B10 := B9.drew
        have hp10 := HP9.out.keep (Below.refl _ _).drew
        have hz10 : w9.drew.heap[Z]? = _ := HZ9.out
        clear q0 q1 zq hs0 hd wm KWD B9
        generalize w9.drew = w10 at B10 hp10 hz10 ⊢
        obtain ⟨⟨q0, q1⟩, zq, _, _⟩ := HK.out _ B10
        have HP10 := Lib.hid hp10
        have HZ10 := Lib.hid hz10
        clear hp10 hz10 HP9 HZ9 B10
        go_wp2
        clear q0 q1 zq
        go_loopw [88] (fun i wr => ∃ (k : Nat) (l' : List E) (m : Nat) (wk : Int), k ≤ l.length ∧ i = .int .i64 k ∧ Hid (Pln W5 wr n s t P l' m wk) ∧ m ≤ 1300000 + k ∧ Hid (Life.Ends l' l) ∧ Hid (Firsts l' l k) ∧ Hid (wr.heap[Z]? = some (.cells #[.slice A7 k7 c7, .int .i64 co7] 48 (0, 0)))) (fun i _ => l.length - (intOf i).toNat)
        case atStart => exact ⟨0, l', m + 80000, wk9, Nat.zero_le _, rfl, HP10, by omega, HE, Lib.hid (fun j hj => absurd hj (Nat.not_lt_zero _)), HZ10⟩
        case round =>
          clear HP10 HZ10 HE
          obtain ⟨k, l2, m2, wk2, hk, rfl, HP, hm2, HE, HF, HZ⟩ := hrel
          have B9 := HB4.out.trans (HP.out.lo.mono Z4)
          obtain ⟨⟨q0, q1⟩, zq, sg, HB⟩ := HK.out _ B9
          by_cases hlt : k < l.length
          · obtain ⟨bb, off, f, t', co, rfl, hbb, he, hcf, hct, hcc⟩ := sg.atE hlt
            have hco : cpt l k = co := by unfold cpt; rw [ed_at hlt, he]
            have hnx := HF.out.next HE.out hlt (HC.out k hlt)
            have hen := HE.out.edt k (cpt l k)
            rw [hco] at hnx hen
            have kst := set_pln (HP.out.keep ((Below.refl _ _).alloc (Nat.le_refl _) (.cells #[.int .i64 f, .int .i64 t', .int .i64 co] 30))) (by omega) k co
            rw [hnx.1] at kst
            have hzz := blk_alloc HZ.out (.cells #[.int .i64 f, .int .i64 t', .int .i64 co] 30)
            have KST := Lib.hid kst
            have HZZ := Lib.hid hzz
            have HF2 := Lib.hid hnx.2
            have HE2 := Lib.hid hen
            clear kst he HB B9 hzz hco hnx hen sg
            go_wp2_with fail
            refine KST.out.mono ?_
            rintro e w3 ⟨rfl, HP3, HK3, hz3⟩
            have HZ3 := Lib.hid (HK3.out _ _ _ HZZ.out)
            clear HK3 hcf hct hcc KST q0 q1 zq
            go_wp2
            go_roundw
            case rel => exact ⟨k + 1, _, m2 + 1, wk2, by omega, by go_num, HP3, by omega, HE2, HF2, HZ3⟩
            case measure => simp [intOf]; omega
          · obtain rfl : k = l.length := by omega
            have hl2 := HF.out.all HE.out
            subst hl2
            have kw := way_pln HP.out (by omega)
            have KWY := Lib.hid kw
            clear kw B9 sg q0 q1 zq HB
            go_wp2_with fail
            refine KWY.out.mono ?_
            rintro e w12 ⟨A12, k12, c12, co12, er12, wk12, rfl, HP12, _, HK12, hz12, HW12⟩
            obtain ⟨e1, e2⟩ := HW7.out.same HW12.out
            subst e1 e2
            have hz13 := blk_alloc (HK12.out _ _ _ HZ.out) (.cells #[.slice A12 k12 c12, .int .i64 co7] 48)
            have hp13 := HP12.out.keep ((Below.refl _ _).alloc (Nat.le_refl _) (.cells #[.slice A12 k12 c12, .int .i64 co7] 48))
            have hn13 := heap_alloc_new w12 (.cells #[.slice A12 k12 c12, .int .i64 co7] 48)
            go_upto_region 26 with fail
            generalize w12.alloc (.cells #[.slice A12 k12 c12, .int .i64 co7] 48) = w13 at hz13 hp13 hn13 ⊢
            generalize w12.heap.size = Z2 at hn13 ⊢
            have B13 := HB4.out.trans (hp13.lo.mono Z4)
            obtain ⟨⟨q0, q1⟩, zq, _, _⟩ := HK.out _ B13
            have z1 := blk_cell hz13 1
            have z2 := blk_cell hn13 1
            simp only [List.getElem?_toArray, List.getElem?_cons_zero, List.getElem?_cons_succ] at z1 z2
            have zz1 := lt_of_block hz13
            have zz2 := lt_of_block hn13
            have knt := net_pln (hp13.keep (Below.refl _ _).drew)
            have hS : ∀ W, Below w13.drew.heap.size w13.drew W → (W.cell? ⟨Z, 1, none⟩ = some (.int .i64 co7) ∧ W.cell? ⟨Z2, 1, none⟩ = some (.int .i64 co7) ∧ W.cell? ⟨w.heap.size, 0, none⟩ = some (.int .i64 n) ∧ W.cell? ⟨w.heap.size, 1, none⟩ = some (.slice A l2.length c)) := fun W hW =>
              ⟨(hW.cell (p := ⟨Z, 1, none⟩) zz1).trans z1, (hW.cell (p := ⟨Z2, 1, none⟩) zz2).trans z2, (hW.cell (p := ⟨w.heap.size, 0, none⟩) zq).trans q0, (hW.cell (p := ⟨w.heap.size, 1, none⟩) zq).trans q1⟩
            have hs0 := hS _ (Below.refl _ _)
            have KNT := Lib.hid knt
            have HS := Lib.hid hS
            have HB13 := Lib.hid B13
            clear knt hS B13 hz13 hp13 hn13 q0 q1 zq z1 z2 zz1 zz2 HW7 HW12 HP12 HK12 HP HZ HF HE KWY hz12
            go_region_held3 (fun w' => w'.cell? ⟨Z, 1, none⟩ = some (.int .i64 co7) ∧ w'.cell? ⟨Z2, 1, none⟩ = some (.int .i64 co7) ∧ w'.cell? ⟨w.heap.size, 0, none⟩ = some (.int .i64 n) ∧ w'.cell? ⟨w.heap.size, 1, none⟩ = some (.slice A l2.length c))
              (first | exact hs2 | exact hs1 | exact hs0 | go_keep)
              (first
                | (go_at_call 36; refine KNT.out.mono ?_; rintro e w14 ⟨A14, c14, rfl, own14, hb14⟩; have hs1 := HS.out _ hb14; have B14 := HB13.out.drew.trans (hb14.mono (by have := HB13.out.size; simp at this; exact this)))
                | (go_at_call 35; refine (same_net n n A14 A l2.length l2.length c14 c l2 l2 w14 own14.sl.2 (HK.out _ B14).2.2.1 rfl rfl (by omega) true (by simp)).mono ?_; rintro e w15 ⟨rfl, hb15⟩; have hs2 := HS.out _ (hb14.trans (hb15.mono hb14.size)); have B15 := B14.trans (hb15.mono (by have := B14.size; simp at this; omega))))
            all_goals
              have HB := Lib.hid (HK.out _ B15).2.2.2
              clear B14 B15 hb14 hb15 own14 hs0 hs1 hs2
              go_wp2
              go_ret
              exact ⟨by simp, HB.out⟩
  · have kn := new_no N a b A c l W5 sg hll hx
    have hne : (Dijk.look N l [a, b] != 0) = true := by rw [bne_iff_ne]; exact hx
    generalize Dijk.look N l [a, b] = x at *
    have KN := Lib.hid kn
    clear kn hx
    go_wp2_with fail
    refine KN.out.mono ?_
    rintro e w6 ⟨rfl, hb6⟩
    have B6 := HB4.out.trans (hb6.mono Z4)
    obtain ⟨_, _, _, H6⟩ := HK.out _ B6
    have HB := Lib.hid H6
    clear hb6 H6 B6 KN sg q0 q1 zq
    go_wp2
    go_ret
    exact ⟨by simp, HB.out⟩

theorem own : ownKnob Try.prog.godebug = none := by kernel_rfl
theorem laidOut : laidOutB Try.prog = true := by kernel_rfl

set_option maxRecDepth 100000 in
theorem contract (H : Type) (enc : TypeId × Value → H) (W : World) (base : Nat) (args : Array Value) (ds gs : List (DataW H)) (before : List MemPlace)
    (hval0 : ∀ (j : Nat) t v, Try.f9.params[j]? = some t → args[j]? = some v → Value.okWide Try.prog W .any base t v)
    (hW : DataW.Whole enc Try.prog Try.f9.params.toList Rows.lifeBackSpec.vars false W args.toList ds gs before) (hk : Rows.uptoSmall H (ds ++ gs) = true) :
    Calls Try.prog 9 args W fun e W' => ∃ v, e = .returned v ∧ Rows.lifeBackSpec.post enc Try.prog Try.f9 false true false false W args v W' := by
  have hval : ∀ (j : Nat) t v, Try.f9.params[j]? = some t → args[j]? = some v → Value.okWide Try.prog W .any base t v := hval0
  have hW' := hW
  obtain ⟨p, q, hA0, hV, rfl, hfz, hnd⟩ := hW
  have hA : DataW.TrodAll enc Try.prog W 0 (fun _ => true) true Try.f9.params.toList args.toList ds p := hA0
  rw [Try.params9] at hA hval
  obtain ⟨v0, vs0, d0, ds0, p0, q0, hargs, rfl, rfl, h0, r0⟩ := trodAll_cons hA
  obtain ⟨v1, vs1, d1, ds1, p1, q1, rfl, rfl, rfl, h1, r1⟩ := trodAll_cons r0
  obtain ⟨v2, vs2, d2, ds2, p2, q2, rfl, rfl, rfl, h2, r2⟩ := trodAll_cons r1
  obtain ⟨v3, vs3, d3, ds3, p3, q3, rfl, rfl, rfl, h3, r3⟩ := trodAll_cons r2
  obtain ⟨rfl, rfl, rfl⟩ := trodAll_nil r3
  obtain rfl : args = #[v0, v1, v2, v3] := by cases args; simp_all
  obtain ⟨rfl, rfl⟩ := trodVars_none hV
  obtain ⟨N0, A0, c0, l0, dd0, rfl, hN0, hG0, hb0, rfl, hd0⟩ := open_net Try.underlying24 (by kernel_rfl) (by kernel_rfl) Try.underlying3 Try.underlying22 Try.underlying30 (by kernel_rfl) (by kernel_rfl) Try.underlying3 Try.underlying3 Try.underlying3 (hval 0 24 v0 rfl rfl) h0
  obtain ⟨a1, rfl, rfl, rfl, wa1⟩ := open_int Try.underlying3 (hval 1 3 v1 rfl rfl) h1
  obtain ⟨a2, rfl, rfl, rfl, wa2⟩ := open_int Try.underlying3 (hval 2 3 v2 rfl rfl) h2
  obtain ⟨A3, c3, l3, rfl, hG3, hd3, hb3⟩ := open_sl2 Try.underlying54 Try.underlying61 (by kernel_rfl) (by kernel_rfl) Try.underlying3 Try.underlying3 (hval 3 54 v3 rfl rfl) h3
  have hbulk := bulk_bound hk
  simp only [List.cons_append, List.nil_append, List.append_nil, Rows.uptoBulkAll] at hbulk
  have hq0 := bulk_agg2 (x := .lit (.int .i64 N0)) hd0
  have hq1 := bulk_len hd3
  refine (walk W N0 A0 c0 l0 hG0 a1 (wf_bd wa1) a2 (wf_bd wa2) A3 c3 l3 hG3 (by omega)).mono fun e W' ⟨he, hB⟩ => ?_
  subst he
  exact ⟨_, rfl, post_of_law laidOut rfl Try.underlying4 rfl (by intro t ht; rw [Try.params9] at ht; simp at ht; rcases ht with rfl | rfl | rfl | rfl <;> exact ⟨by kernel_rfl, of_decide_eq_true (by kernel_rfl)⟩) hW' rfl hB⟩

set_option maxRecDepth 100000 in
theorem lifted (os : Os) (started : os.Started) (H : Type) (enc : TypeId × Value → H) (F : Stop.Interp) :
    ReturnsInHanded {} Try.checked os 9 .any ((Rows.OpenSpec.upto Rows.lifeBackSpec).pre6 enc Try.prog Try.f9 Rows.lifeBackUptoRow.domain false) (((Rows.OpenSpec.upto Rows.lifeBackSpec).at F).post enc Try.prog Try.f9 false true false false) := by
  refine returnsInHanded_of_cond (C := Try.checked) (s := Rows.OpenSpec.upto Rows.lifeBackSpec) (k := Rows.uptoSmall) rfl own started (by kernel_rfl) Try.func9
    (OpenSpec.witness (enc := enc) (C := Try.checked) (s := Rows.OpenSpec.upto Rows.lifeBackSpec) (k := Rows.uptoSmall) rfl false ⟨#[], #[.agg #[.int .i64 0, .slice none 0 0], .int .i64 0, .int .i64 0, .slice none 0 0], []⟩ 8 (by kernel_rfl) (by kernel_rfl) (by kernel_rfl)
      (x := ([.agg [.lit (.int .i64 0), .nil], .lit (.int .i64 0), .lit (.int .i64 0), .nil], [], [])) (by kernel_rfl) rfl (by kernel_rfl)) ?_
  intro W base args ds gs before hval hW _ hk _
  exact contract H enc W base args ds gs before hval hW hk

theorem holds : Rows.LifeBackUptoSaid :=
  OpenClaim.holds_of_cond 9 Try.f9 rfl rfl rfl rfl rfl rfl rfl ⟨rfl, rfl, rfl, rfl, rfl⟩ rfl rfl rfl rfl rfl (by kernel_rfl) Try.func9 (by kernel_rfl)
    (of_decide_eq_true (by kernel_rfl)) (by unfold Func.isWrapper; first | (rw [if_pos (by decide +kernel)]; kernel_rfl) | (rw [if_neg (by decide +kernel)]; exact ⟨rfl, rfl⟩))
    (fun os started H enc _ F => lifted os started H enc F)
#print axioms holds
end Go.Proofs.Ytjhnlkmdkjlkdaa.LifeBackLaw
