/- For every grid and every side of squares: HierDoors answers true (who leaves a square is at a door and comes to one), and the arguments read as before. No condition. -/
import Derived.Test.YtbgkkmcobijkgaaRows
import Derived.Test.YtbgkkmcobijkgaaOpen
import Derived.Test.YtbgkkmcobijkgaaHierFn
namespace Go.Proofs.Ytbgkkmcobijkgaa.HierDoorsLaw
open Go.ChangeShapes Go.WideShapes Go.ChangeAt Go.RowKit Go.Proofs.Ytbgkkmcobijkgaa GridLaw GroundLaw HierLaw Go.Proofs.Ytbgkkmcobijkgaa.Grid Go.Proofs.Ytbgkkmcobijkgaa.Net Go.Proofs.Ytbgkkmcobijkgaa.NetOf Go.Proofs.Ytbgkkmcobijkgaa.Std Go.Proofs.Ytbgkkmcobijkgaa.Hier
set_option linter.unusedSimpArgs false
set_option linter.unusedVariables false

set_option maxRecDepth 100000 in
set_option maxHeartbeats 4000000 in
theorem walk (w : World) (W H : Int) (A : Option Addr) (c : Nat) (l : List Int) (hW : -9223372036854775808 ≤ W ∧ W ≤ 9223372036854775807) (hH : -9223372036854775808 ≤ H ∧ H ≤ 9223372036854775807) (hA : Arg w 1 ci A c l) (k : Int) (hk : -9223372036854775808 ≤ k ∧ k ≤ 9223372036854775807) :
    Calls Try.prog 3 #[.agg #[.int .i64 W, .int .i64 H, .slice A l.length c], .int .i64 k] w fun e w' => e = .returned (.bool true) ∧ Below w.heap.size w w' := by
  have hs := hA.sl
  have hll : l.length ≤ 9223372036854775807 := Nat.le_trans hA.cap hA.max
  clear hA
  have KG := Lib.hid (fun W' => ground_k W')
  have K1 := Lib.hid (fun S W' h => doors_one S W' h)
  have K2 := Lib.hid (fun A A' c c' B B' W' h h' => equal_int' A A' 2 2 c c' [0, 1] [0, 1] B B' W' h h' rfl rfl (by decide) true (by decide))
  have gb := fun X hX => gbox (c := c) (W := W) (H := H) (X := X) hs hX
  have GB := Lib.hid gb
  have hb0 : Below (w.heap.size + 1) (w.alloc (.cells #[.int .i64 W, .int .i64 H, .slice A l.length c] 24)) (w.alloc (.cells #[.int .i64 W, .int .i64 H, .slice A l.length c] 24)) := Below.refl _ _
  have HB0 := Lib.hid hb0
  by_cases hg : lk W H l k = 0
  · obtain ⟨gg, k1, k8⟩ := lk_zero.1 hg
    have hgood := ground_good gg
    have hsz := size_bd gg
    have kd := fun W' h => Doors_yes W H k A l.length c l W' rfl h gg k1 k8
    have ko := fun W' h => of_yes W H A c l W' h gg
    have hml : (allM W H l l.length).length ≤ 600 := by
      have h2 := allM_len W H l l.length
      omega
    have ks := fun W' (v : Int) h (h0 : 0 ≤ v) (h1 : v < l.length) => Square_any W H k v A l.length c l W' rfl h hll
    have hsq : ∀ v : Int, 0 ≤ v → v < (l.length : Int) → sqr W H l k v = (sq W k v, 0) := fun v h0 h1 => by rw [sqr, if_neg (by simp [hg]), if_neg (by omega)]
    have hbt : ∀ e ∈ allM W H l l.length, sq W k e.1 ≠ sq W k e.2.1 → e ∈ btw W k (allM W H l l.length) := fun e he hn => by
      rcases mem_parts (W := W) (k := k) he with h | h
      · exact absurd (of_decide_eq_true (List.mem_filter.1 h).2) hn
      · exact h
    have hends := hgood.ends
    generalize allM W H l l.length = m at *
    have hsrt := drs_sorted (btw W k m) l.length
    have hdl := drs_len (btw W k m) l.length
    have hmem : ∀ e ∈ m, sq W k e.1 ≠ sq W k e.2.1 → e.1 ∈ drs (btw W k m) l.length ∧ e.2.1 ∈ drs (btw W k m) l.length := fun e he hn => by
      have hb := hbt e he hn
      obtain ⟨a1, a2, a3, a4⟩ := hends e he
      have hd := isD_ends hb
      exact ⟨mem_drs.2 ⟨⟨a1, a2⟩, hd.1⟩, mem_drs.2 ⟨⟨a3, a4⟩, hd.2⟩⟩
    generalize drs (btw W k m) l.length = L at *
    have hnod : L.Nodup := hsrt.imp (fun h => by omega)
    have KD := Lib.hid kd
    have KO := Lib.hid ko
    have ks' : ∀ W' (v : Int), Sl W' W'.heap.size 1 ci A l → 0 ≤ v → v < (l.length : Int) → Calls Try.prog 21 #[.agg #[.int .i64 W, .int .i64 H, .slice A l.length c], .int .i64 k, .int .i64 v] W' fun e w' => e = .returned (.tuple #[.int .i64 (sq W k v), .int .i64 0]) ∧ Below W'.heap.size W' w' := fun W' v h h0 h1 => by
      have := ks W' v h h0 h1
      rwa [hsq v h0 h1] at this
    have KS := Lib.hid ks'
    have HMEM := Lib.hid hmem
    have HENDS := Lib.hid hends
    have HSRT := Lib.hid hsrt
    have HNOD := Lib.hid hnod
    clear kd ko ks ks' hsq hbt hends hmem hsrt hnod gg hgood hg hb0 gb hs
    go_enter Try.func3, Try.ntmps3
    go_wp2_with fail
    refine (KG.out _).mono ?_
    rintro e w1 ⟨S1, rfl, s1, hb1⟩
    have B1 := HB0.out.trans (hb1.mono (by simp))
    have Z1 : w.heap.size + 1 ≤ w1.heap.size := by have := B1.size; simpa using this
    clear hb1
    go_wp2_with fail
    refine (K1.out _ _ s1).mono ?_
    rintro e w2 ⟨A2, c2, rfl, s2, hb2⟩
    have B2 := B1.trans (hb2.mono Z1)
    have Z2 : w.heap.size + 1 ≤ w2.heap.size := Nat.le_trans Z1 hb2.size
    clear hb2 s1 B1
    have B2' := B2.alloc Z2 (.cells #[.int .i64 0, .int .i64 1] 3)
    have s2' := (s2.keep ((Below.refl w2.heap.size w2).alloc (Nat.le_refl _) (.cells #[.int .i64 0, .int .i64 1] 3)) (Nat.le_refl _))
    have n2' : Sl (w2.alloc (.cells #[.int .i64 0, .int .i64 1] 3)) (w2.alloc (.cells #[.int .i64 0, .int .i64 1] 3)).heap.size 1 ci (some ⟨w2.heap.size, 0, none⟩) [0, 1] := sl_new' (by decide) _ #[.int .i64 0, .int .i64 1] _ _ rfl rfl
    go_wp2_with fail
    refine (K2.out _ _ _ _ _ _ _ s2' n2').mono ?_
    rintro e w3 ⟨rfl, nq, rfl⟩
    have B3 := below_drewN B2' nq
    have Z3 : w.heap.size + 1 ≤ ((w2.alloc (.cells #[.int .i64 0, .int .i64 1] 3)).drewN nq).heap.size := by simp; omega
    clear s2 s2' n2' B2 B2'
    obtain ⟨⟨q0, q1, q2⟩, sl, HX, _⟩ := GB.out _ B3
    go_wp2_with fail
    refine (KD.out _ sl).mono ?_
    rintro e w4 ⟨A4, p4, c4, rfl, hp4, o4, hb4⟩
    have B4 := B3.trans (hb4.mono Z3)
    have HP4 := Lib.hid hp4
    have OW4 := Lib.hid o4
    have hc4 := own_caps o4
    clear hp4 o4 q0 q1 q2 sl HX Z3 hb4 B3
    obtain ⟨⟨q0, q1, q2⟩, sl, HX, Z4⟩ := GB.out _ B4
    go_wp2_with fail
    refine (KO.out _ sl).mono ?_
    rintro e w5 ⟨A5, c5, rfl, o5, hb5⟩
    have B5 := B4.trans (hb5.mono Z4)
    have OW5 := Lib.hid o5
    have Z5 := Nat.le_trans Z4 hb5.size
    have B6 := B5.alloc Z5 (.cells #[.int .i64 l.length, .slice A5 m.length c5] 32)
    have hn5 := heap_alloc_new w5 (.cells #[.int .i64 l.length, .slice A5 m.length c5] 32)
    have n51 := blk_cell hn5 1
    simp only [List.getElem?_toArray, List.getElem?_cons_zero, List.getElem?_cons_succ] at n51
    have hL4 : ∀ X, Below w4.heap.size w4 X → Sl X X.heap.size 1 ci A4 L := fun X hX => ((OW4.out.keep hX).sl.2)
    have HL4 := Lib.hid hL4
    have B45 := Lib.hid (hb5.alloc hb5.size (.cells #[.int .i64 l.length, .slice A5 m.length c5] 32))
    clear hn5 hL4 o5 hb5 q0 q1 q2 sl HX B4 B5
    go_wp2_with fail
    refine (sorted_int A4 c4 p4 L _ _ (HL4.out _ B45.out) HP4.out (by omega) HSRT.out).mono ?_
    rintro e w6 ⟨rfl, nq2, rfl⟩
    have B7 := below_drewN B6 nq2
    have B47 := Lib.hid (below_drewN B45.out nq2)
    go_wp2_with fail
    refine (once_any A4 c4 p4 L _ _ (HL4.out _ B47.out) HP4.out hc4.1 hc4.2 true (decide_eq_true HNOD.out)).mono ?_
    rintro e w7 ⟨rfl, rfl⟩
    have Z7 : w.heap.size + 1 ≤ ((w5.alloc (.cells #[.int .i64 l.length, .slice A5 m.length c5] 32)).drewN nq2).heap.size := by simp; omega
    have HB7 := Lib.hid B7
    clear B6 B7 B45
    go_wp2
    have ow7 : Own ((w5.alloc (.cells #[.int .i64 l.length, .slice A5 m.length c5] 32)).drewN nq2) w4.heap.size 37 3 ce (.slice A5 m.length c5) m := (OW5.out.alloc _).drewN nq2
    have OW7 := Lib.hid ow7
    clear ow7 OW5 n51
    generalize (w5.alloc (.cells #[.int .i64 l.length, .slice A5 m.length c5] 32)).drewN nq2 = w7 at *
    go_loopw [60] (fun i wr => ∃ j : Nat, j ≤ m.length ∧ i = .int .i64 j ∧ Hid (Below w7.heap.size w7 wr)) (fun i _ => m.length - (intOf i).toNat)
    case atStart => exact ⟨0, Nat.zero_le _, rfl, Lib.hid (Below.refl _ _)⟩
    case round =>
      obtain ⟨j, hj, rfl, HBr⟩ := hrel
      by_cases hlt : j < m.length
      · obtain ⟨S, f, t, co, rfl, hS0, hS1, he, s0, s1, s2, _⟩ := own_atE rfl (OW7.out.keep HBr.out) hlt
        have hmem := List.getElem_mem hlt
        rw [he] at hmem
        obtain ⟨f0, f1, t0, t1⟩ : 0 ≤ f ∧ f < l.length ∧ 0 ≤ t ∧ t < l.length := HENDS.out _ hmem
        have hin := HMEM.out _ hmem
        have Br := HB7.out.trans (HBr.out.mono Z7)
        have Zr := Nat.le_trans Z7 HBr.out.size
        have Ba := Br.alloc Zr (.cells #[.int .i64 f, .int .i64 t, .int .i64 co] 37)
        have hE := heap_alloc_new wr (.cells #[.int .i64 f, .int .i64 t, .int .i64 co] 37)
        have he0 : Below (wr.heap.size + 1) (wr.alloc (.cells #[.int .i64 f, .int .i64 t, .int .i64 co] 37)) (wr.alloc (.cells #[.int .i64 f, .int .i64 t, .int .i64 co] 37)) := Below.refl _ _
        have hkE : ∀ X, Below (wr.heap.size + 1) (wr.alloc (.cells #[.int .i64 f, .int .i64 t, .int .i64 co] 37)) X → (X.cell? ⟨wr.heap.size, 0, none⟩ = some (.int .i64 f) ∧ X.cell? ⟨wr.heap.size, 1, none⟩ = some (.int .i64 t)) ∧ Below w7.heap.size w7 X ∧ Below (w.heap.size + 1) (w.alloc (.cells #[.int .i64 W, .int .i64 H, .slice A l.length c] 24)) X ∧ wr.heap.size + 1 ≤ X.heap.size := fun X hX => by
          have h1 := blk_below hE hX (Nat.lt_succ_self _)
          have h2 := HBr.out.size
          exact ⟨⟨blk_cell h1 0, blk_cell h1 1⟩, (HBr.out.alloc h2 _).trans (hX.mono (by omega)), Ba.trans (hX.mono (by omega)), lt_of_block h1⟩
        have HKE := Lib.hid hkE
        have HIN := Lib.hid hin
        have z4 : (j : Int) < (m.length : Int) := by omega
        obtain ⟨⟨q0, q1, q2⟩, sl, HX, Z9⟩ := GB.out _ Ba
        clear he hmem hin Br Ba hE hkE hS0 hS1
        go_wp2_with fail
        refine (KS.out _ f sl f0 f1).mono ?_
        rintro e w8 ⟨rfl, hb8⟩
        have E8 := he0.trans (hb8.mono (by simp))
        clear q0 q1 q2 sl HX hb8 he0 Z9
        obtain ⟨⟨e0, e1⟩, _, Ba8, ze8⟩ := HKE.out _ E8
        obtain ⟨⟨q0, q1, q2⟩, sl, HX, Z9⟩ := GB.out _ Ba8
        go_wp2_with fail
        refine (KS.out _ t sl t0 t1).mono ?_
        rintro e w9 ⟨rfl, hb9⟩
        have E9 := E8.trans (hb9.mono ze8)
        clear q0 q1 q2 sl HX hb9 E8 Z9 e0 e1 Ba8 ze8
        obtain ⟨⟨e0, e1⟩, hr9, Ba9, ze9⟩ := HKE.out _ E9
        have HR9 := Lib.hid hr9
        by_cases hs : sq W k f = sq W k t
        · have hne : (sq W k f != sq W k t) = false := by rw [hs]; simp
          clear hs hr9 Ba9 E9 HIN
          generalize sq W k f = a1 at *
          generalize sq W k t = a2 at *
          go_wp2
          go_roundw
          case rel => exact ⟨j + 1, by omega, by go_num, HR9⟩
          case measure => simp [intOf]; omega
        · obtain ⟨i1, i2⟩ := HIN.out hs
          have hne : (sq W k f != sq W k t) = true := by simpa using hs
          have sl4 := HL4.out _ (B47.out.trans (hr9.mono B47.out.size))
          have kc := fun v hv => contains_int A4 c4 p4 L v _ w9 sl4 HP4.out (by omega) true (decide_eq_true hv)
          have C1 := Lib.hid (kc f i1)
          have C2 := Lib.hid (kc t i2)
          clear hs hr9 Ba9 E9 HIN kc sl4 i1 i2
          generalize sq W k f = a1 at *
          generalize sq W k t = a2 at *
          go_wp2_with fail
          refine C1.out.mono ?_
          rintro e w10 ⟨rfl, rfl⟩
          go_wp2_with fail
          refine C2.out.mono ?_
          rintro e w10 ⟨rfl, rfl⟩
          go_wp2
          go_roundw
          case rel => exact ⟨j + 1, by omega, by go_num, HR9⟩
          case measure => simp [intOf]; omega
      · obtain rfl : j = m.length := by omega
        have HF := Lib.hid (GB.out _ (HB7.out.trans (HBr.out.mono Z7))).2.2.1
        clear HBr
        go_wp2
        go_ret
        exact ⟨rfl, HF.out⟩
  · have kd := fun W' h => Doors_no W H k A l.length c l W' rfl h hll hg
    have hne : (lk W H l k != 0) = true := by rw [bne_iff_ne]; exact hg
    generalize lk W H l k = er at *
    have KD := Lib.hid kd
    clear kd hg hs gb hb0
    go_enter Try.func3, Try.ntmps3
    go_wp2_with fail
    refine (KG.out _).mono ?_
    rintro e w1 ⟨S1, rfl, s1, hb1⟩
    have B1 := HB0.out.trans (hb1.mono (by simp))
    have Z1 : w.heap.size + 1 ≤ w1.heap.size := by have := B1.size; simpa using this
    clear hb1
    go_wp2_with fail
    refine (K1.out _ _ s1).mono ?_
    rintro e w2 ⟨A2, c2, rfl, s2, hb2⟩
    have B2 := B1.trans (hb2.mono Z1)
    have Z2 : w.heap.size + 1 ≤ w2.heap.size := Nat.le_trans Z1 hb2.size
    clear hb2 s1 B1
    have B2' := B2.alloc Z2 (.cells #[.int .i64 0, .int .i64 1] 3)
    have s2' := (s2.keep ((Below.refl w2.heap.size w2).alloc (Nat.le_refl _) (.cells #[.int .i64 0, .int .i64 1] 3)) (Nat.le_refl _))
    have n2' : Sl (w2.alloc (.cells #[.int .i64 0, .int .i64 1] 3)) (w2.alloc (.cells #[.int .i64 0, .int .i64 1] 3)).heap.size 1 ci (some ⟨w2.heap.size, 0, none⟩) [0, 1] := sl_new' (by decide) _ #[.int .i64 0, .int .i64 1] _ _ rfl rfl
    go_wp2_with fail
    refine (K2.out _ _ _ _ _ _ _ s2' n2').mono ?_
    rintro e w3 ⟨rfl, nq, rfl⟩
    have B3 := below_drewN B2' nq
    have Z3 : w.heap.size + 1 ≤ ((w2.alloc (.cells #[.int .i64 0, .int .i64 1] 3)).drewN nq).heap.size := by simp; omega
    clear s2 s2' n2' B2 B2'
    obtain ⟨⟨q0, q1, q2⟩, sl, HX, _⟩ := GB.out _ B3
    go_wp2_with fail
    refine (KD.out _ sl).mono ?_
    rintro e w4 ⟨rfl, hb4⟩
    have B4 := HX.trans (hb4.mono HX.size)
    clear q0 q1 q2 sl HX Z3 hb4 B3
    go_wp2
    go_ret
    exact ⟨rfl, B4⟩

theorem own : ownKnob Try.prog.godebug = none := by kernel_rfl
theorem laidOut : laidOutB Try.prog = true := by kernel_rfl

set_option maxRecDepth 100000 in
theorem lifted (os : Os) (started : os.Started) (H : Type) (enc : TypeId × Value → H) :
    ReturnsInHanded {} Try.checked os 3 .any (Rows.hierDoorsSpec.pre6 enc Try.prog Try.f3 Rows.hierDoorsRow.domain false) (Rows.hierDoorsSpec.post enc Try.prog Try.f3 false true false false) := by
  refine returnsInHanded_of_change (C := Try.checked) own started (by kernel_rfl) Try.func3
    (ChangeSpec.witness6 (enc := enc) (C := Try.checked) false ⟨#[], #[.agg #[.int .i64 0, .int .i64 0, .slice none 0 0], .int .i64 0], []⟩ 8 (by kernel_rfl) (by kernel_rfl) (by kernel_rfl) (by kernel_rfl)) ?_
  intro W base args ds gs before hval0 hW hcnd _
  have hval : ∀ (j : Nat) t v, Try.f3.params[j]? = some t → args[j]? = some v → Value.okWide Try.prog W .any base t v := hval0
  have hW' := hW
  obtain ⟨p, q, hA0, hV, rfl, hfz, hnd⟩ := hW
  have hA : DataW.TrodAll enc Try.prog W 0 (fun _ => true) true Try.f3.params.toList args.toList ds p := hA0
  rw [Try.params3] at hA hval
  obtain ⟨v0, vs0, d0, ds0, p0, q0, hargs, rfl, rfl, h0, r0⟩ := trodAll_cons hA
  obtain ⟨v1, vs1, d1, ds1, p1, q1, rfl, rfl, rfl, h1, r1⟩ := trodAll_cons r0
  obtain ⟨rfl, rfl, rfl⟩ := trodAll_nil r1
  obtain rfl : args = #[v0, v1] := by cases args; simp_all
  obtain ⟨rfl, rfl⟩ := trodVars_none hV
  obtain ⟨W0, H0, A0, c0, l0, dd0, rfl, hW0, hH0, hG0, hb0, rfl, hd0⟩ := open_grid Try.underlying24 (by kernel_rfl) (by kernel_rfl) Try.underlying3 Try.underlying3 Try.underlying22 Try.underlying3 (by kernel_rfl) (hval 0 24 v0 rfl rfl) h0
  obtain ⟨a1, rfl, rfl, rfl, wa1⟩ := open_int Try.underlying3 (hval 1 3 v1 rfl rfl) h1
  refine (walk W W0 H0 A0 c0 l0 hW0 hH0 hG0 a1 (wf_bd wa1)).mono fun e W' ⟨he, hB⟩ => ?_
  subst he
  exact ⟨_, rfl, post_of_law laidOut rfl Try.underlying4 rfl (by intro t ht; rw [Try.params3] at ht; simp at ht; rcases ht with rfl | rfl <;> exact ⟨by kernel_rfl, of_decide_eq_true (by kernel_rfl)⟩) hW' rfl hB⟩

theorem holds : Rows.HierDoorsSaid :=
  OpenClaim.holds_of_wide 3 Try.f3 rfl rfl rfl rfl rfl rfl rfl ⟨rfl, rfl, rfl, rfl, rfl⟩ rfl rfl rfl rfl rfl (by kernel_rfl) Try.func3 (by kernel_rfl)
    (of_decide_eq_true (by kernel_rfl)) (by unfold Func.isWrapper; first | (rw [if_pos (by decide +kernel)]; kernel_rfl) | (rw [if_neg (by decide +kernel)]; exact ⟨rfl, rfl⟩))
    (fun os started H enc _ => lifted os started H enc)
#print axioms holds
end Go.Proofs.Ytbgkkmcobijkgaa.HierDoorsLaw
