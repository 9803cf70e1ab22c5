/- For every net, two places and number: FlowMore answers true (if an edge bears one more, one more goes through at most, and none if it does not leave the small side), and the arguments read as before. No condition. -/
import Derived.Test.YtlcgkbkmfelcfaaRows
import Derived.Test.YtlcgkbkmfelcfaaOpen
import Derived.Test.YtlcgkbkmfelcfaaFlowPlus
import Derived.Test.YtlcgkbkmfelcfaaRowsBool
import Derived.Test.YtlcgkbkmfelcfaaStdCE
import Derived.Test.YtlcgkbkmfelcfaaWithin
import Derived.Deep.RegionHeld3
import Derived.Deep.CutRange
import Derived.BigQuiet
namespace Go.Proofs.Ytlcgkbkmfelcfaa.FlowMoreLaw
open Go.ChangeShapes Go.WideShapes Go.ChangeAt Go.RowKit Go.Proofs.Ytlcgkbkmfelcfaa NetLaw FlowLaw Go.Proofs.Ytlcgkbkmfelcfaa.Net Go.Proofs.Ytlcgkbkmfelcfaa.Flow Go.Proofs.Ytlcgkbkmfelcfaa.Refs Go.Proofs.Ytlcgkbkmfelcfaa.Std Go.Proofs.Ytlcgkbkmfelcfaa.Within
set_option linter.unusedSimpArgs false
set_option linter.unusedVariables false
theorem side_sl {w : World} {base n c : Nat} {A : Option Addr} {od : List Int} (h : Own w base 4 1 cb (.slice A n c) (side n od)) {k : Nat} (hk : k < n) : ∃ b off, A = some ⟨b, off, none⟩ ∧ b < w.heap.size ∧ w.cell? ⟨b, off + k, none⟩ = some (.bool (decide ((k : Int) ∈ od))) := by
  obtain ⟨_, hs⟩ := h.sl
  obtain ⟨b, off, hA, hlt, hc⟩ := hs (by rw [side_len]; omega)
  have := hc k (by rw [side_len]; exact hk) 0 (by omega)
  rw [Nat.mul_one, Nat.add_zero] at this
  refine ⟨b, off, hA, hlt, ?_⟩
  rw [this]
  have e := side_get (od := od) hk
  rw [List.getD_eq_getElem?_getD, List.getElem?_eq_getElem (by rw [side_len]; exact hk)] at e
  simp only [Option.getD_some] at e
  rw [e]
  rfl

/-- what lies behind the net that is built -/
structure Bd (w5 wx : World) (n : Int) (L : Nat) (l : List E) (X : Nat) (A7 : Option Addr) (c7 : Nat) : Prop where
  box : wx.heap[X]? = some (.cells #[.int .i64 n, .slice A7 L c7] 24 (0, 0))
  own : Own wx w5.heap.size 27 3 ce (.slice A7 L c7) l
  below : Below w5.heap.size w5 wx
  le : w5.heap.size ≤ X
theorem bd_alloc {w5 wd : World} {n : Int} {L b c7 : Nat} {l : List E} {A7 : Option Addr} (own : Own wd b 27 3 ce (.slice A7 L c7) l) (hb : w5.heap.size ≤ b) (HB : Below w5.heap.size w5 wd) : Bd w5 (wd.alloc (.cells #[.int .i64 n, .slice A7 L c7] 24)) n L l wd.heap.size A7 c7 :=
  ⟨heap_alloc_new wd _, (own.mono hb).alloc _, HB.alloc HB.size _, HB.size⟩
theorem bd_set {w5 wd : World} {n : Int} {L b c7 X : Nat} {l : List E} {A7 : Option Addr} (own : Own wd b 27 3 ce (.slice A7 L c7) l) (hb : w5.heap.size ≤ b) (HB : Below w5.heap.size w5 wd) (hX : w5.heap.size ≤ X) (m : wd.heap[X]? = some (.cells #[.int .i64 0, .slice none 0 0] 24 (0, 0))) :
    Bd w5 ((wd.setCell ⟨X, 0, none⟩ (.int .i64 n)).setCell ⟨X, 1, none⟩ (.slice A7 L c7)) n L l X A7 c7 := by
  have hne := own.ne_ m (by decide)
  refine ⟨blk_set (blk_set m 0 (.int .i64 n)) 1 (.slice A7 L c7), ((own.mono hb).setCell hne _).setCell hne _, (HB.setCell hX _).setCell hX _, hX⟩

set_option maxRecDepth 100000 in
set_option maxHeartbeats 8000000 in
theorem walk (w : World) (N : Int) (A : Option Addr) (c : Nat) (l : List E) (hA : Arg w 3 ce A c l) (a : Int) (ha : -9223372036854775808 ≤ a ∧ a ≤ 9223372036854775807) (b : Int) (hb : -9223372036854775808 ≤ b ∧ b ≤ 9223372036854775807) (i : Int) (hi' : -9223372036854775808 ≤ i ∧ i ≤ 9223372036854775807) :
    Calls Try.prog 13 #[.agg #[.int .i64 N, .slice A l.length c], .int .i64 a, .int .i64 b, .int .i64 i] w fun e w' => e = .returned (.bool true) ∧ Below w.heap.size w w' := by
  have hs := hA.sl
  have hnil := hA.nil
  have hll : l.length ≤ 9223372036854775807 := Nat.le_trans hA.cap hA.max
  clear hA ha hb
  have hw0 : Below w.heap.size w (w.alloc (.cells #[.int .i64 N, .slice A l.length c] 24)) := (Below.refl _ _).alloc (Nat.le_refl _) _
  have hkeep : ∀ W, Below (w.heap.size + 1) (w.alloc (.cells #[.int .i64 N, .slice A l.length c] 24)) W → W.cell? ⟨w.heap.size, 0, none⟩ = some (.int .i64 N) ∧ W.cell? ⟨w.heap.size, 1, none⟩ = some (.slice A l.length c) ∧ w.heap.size + 1 ≤ W.heap.size ∧ Sl W W.heap.size 3 ce A l ∧ Below w.heap.size w W := fun W hW => by
    obtain ⟨cc, _⟩ := keepAt hW (Nat.lt_succ_self _)
    have q0 := cc 0
    have q1 := cc 1
    simp at q0 q1
    have H := hw0.trans (hW.mono (Nat.le_succ _))
    have hz := hW.size
    simp at hz
    exact ⟨q0, q1, hz, (hs.keep H (Nat.le_refl _)).more H.size, H⟩
  have HK := Lib.hid hkeep
  clear hkeep
  have key0 := fun W g h => cut_two W g h
  have key1 : ∀ W A A' c c' B B', Sl W B 1 cb A [true, false] → Sl W B' 1 cb A' [true, false] → Calls Try.prog 51 #[.slice A 2 c, .slice A' 2 c'] W fun e w' => e = .returned (.bool true) ∧ ∃ n, w' = W.drewN n := fun W A A' c c' B B' h h' => by
    have k := RowsBool.equal_bool A A' c c' [true, false] [true, false] B B' W h h' (by decide)
    rwa [decide_eq_true rfl] at k
  have k2 := fun W h => max_some N a b A c l W h hll
  have KEY0 := Lib.hid key0
  have KEY1 := Lib.hid key1
  have K2 := Lib.hid k2
  clear key0 key1 k2
  by_cases hx : ferr N l a b = 0
  · have hfz := ferr_zero.1 hx
    have hg := hfz.1
    have hN1 := hg.lo
    have hN2 := hg.hi
    have h6 := hg.len
    obtain ⟨n, rfl⟩ := Int.eq_ofNat_of_zero_le (show 0 ≤ N by omega)
    have k3 := fun W h => cut_yes n a b A c l hx hll W h
    have K3 := Lib.hid k3
    have HX := Lib.hid hx
    have HG := Lib.hid hg
    clear k3 hfz hg
    by_cases hl0 : l.length = 0
    · have e1 : (l.length : Int) = 0 := by omega
      have e2 : ((l.length : Int) == 0) = true := by rw [beq_iff_eq]; exact e1
      clear hl0 hx
      go_enter Try.func13, Try.ntmps13
      go_wp2_with fail
      refine (two_any _).mono ?_
      rintro e w1 ⟨g, rfl, own1, hb1⟩
      have B1 : Below (w.heap.size + 1) (w.alloc (.cells #[.int .i64 n, .slice A l.length c] 24)) w1 := hb1.mono (by simp)
      have Z1 : w.heap.size + 1 ≤ w1.heap.size := by have := hb1.size; simp at this; omega
      clear hb1
      go_wp2_with fail
      refine (KEY0.out _ _ own1.sl.2).mono ?_
      rintro e w2 ⟨A2, c2, rfl, own2, hb2⟩
      have B2 := B1.trans (hb2.mono Z1)
      have Z2 : w.heap.size + 1 ≤ w2.heap.size := by have := hb2.size; omega
      clear hb2 own1 B1 Z1
      go_wp2_with fail
      refine (KEY1.out _ _ _ _ _ _ _ (own2.alloc _).sl.2 (sl_new' (cell := cb) (by decide) w2 #[.bool true, .bool false] _ _ rfl rfl)).mono ?_
      rintro e w3 ⟨rfl, n3, rfl⟩
      have B3 := below_drewN (B2.alloc Z2 (.cells #[.bool true, .bool false] 4)) n3
      have Z3 : w.heap.size + 1 ≤ ((w2.alloc (.cells #[.bool true, .bool false] 4)).drewN n3).heap.size := by simp; omega
      generalize ((w2.alloc (.cells #[.bool true, .bool false] 4)).drewN n3) = w3 at B3 Z3 ⊢
      clear own2 B2 Z2
      have z3 : w.heap.size < w3.heap.size := by omega
      clear Z3
      obtain ⟨q0, q1, Z3, sg, H3⟩ := HK.out _ B3
      clear H3
      go_wp2_with fail
      refine (K2.out _ sg).mono ?_
      rintro e w4 ⟨v1, A4, n4, c4, er1, rfl, hb4, F4⟩
      have B4 := B3.trans (hb4.mono Z3)
      clear q0 q1 sg Z3
      obtain ⟨q0, q1, Z4, sg, H4⟩ := HK.out _ B4
      have z4 : w.heap.size < w4.heap.size := by omega
      have he1 : er1 = 0 := F4.out.1.trans HX.out
      subst he1
      clear hb4 B3 F4
      go_wp2_with fail
      refine (K3.out _ sg).mono ?_
      rintro e w5 ⟨v5, A5, c5, od, rfl, own5, hb5, F5⟩
      have B5 := B4.trans (hb5.mono Z4)
      clear q0 q1 sg Z4
      obtain ⟨q0, q1, Z5, sg, H5⟩ := HK.out _ B5
      have z5 : w.heap.size < w5.heap.size := by omega
      clear own5 hb5 B4 F5 H4 z4 sg
      go_wp2
      go_ret
      exact ⟨by first | rfl | simp, H5⟩
    · obtain ⟨L, hL⟩ : ∃ L, l.length = L := ⟨_, rfl⟩
      have hL1 : 1 ≤ L := by omega
      have e1 : ¬ ((L : Int) = 0) := by omega
      have e2 : ((L : Int) == 0) = false := by rw [beq_eq_false_iff_ne]; exact e1
      obtain ⟨_, hwi⟩ := wi_spec i L hL1 (by omega)
      have kw := fun (W : World) => within_any i L hL1 (by omega) W
      obtain ⟨j, hj⟩ : ∃ j, wi i L = j := ⟨_, rfl⟩
      rw [hj] at kw hwi
      have kcl := fun (B : Nat) (W : World) (h : Sl W B 3 ce A l) (hB : B ≤ W.heap.size) => clone_edge A c l B W h hB hnil (by omega)
      have kmx := fun W A' c' h => max_some n a b A' c' (plus l j) W h (by rw [plus_len]; exact hll)
      rw [plus_len] at kmx
      have hlaw := fun v1 v5 m er od (hco : cpt l j < 10000) (h1 : Mx l a b v1) h5 (hm : MaxFact n a b (plus l j) m er) => plus_law (i := j) (n := v1) (v := v5) (od := od) (by omega) hx hco h1 h5 hm
      have KW := Lib.hid kw
      have KCL := Lib.hid kcl
      have KMX := Lib.hid kmx
      have LAW := Lib.hid hlaw
      have HLL := Lib.hid hL
      rw [hL] at hw0 h6 hll ⊢
      have HK' := HK.out
      rw [hL] at HK'
      have K2' := K2.out
      have K3' := K3.out
      have KCL' := KCL.out
      have KMX' := KMX.out
      rw [hL] at K2' K3' KCL' KMX'
      clear HK K2 K3 KCL KMX
      have HK := Lib.hid HK'
      have K2 := Lib.hid K2'
      have K3 := Lib.hid K3'
      have KCL := Lib.hid KCL'
      have KMX := Lib.hid KMX'
      clear HK' K2' K3' KCL' KMX' kw kcl kmx hlaw hL hl0 hx hj hi' hs hnil
      go_enter Try.func13, Try.ntmps13
      go_wp2_with fail
      refine (two_any _).mono ?_
      rintro e w1 ⟨g, rfl, own1, hb1⟩
      have B1 : Below (w.heap.size + 1) (w.alloc (.cells #[.int .i64 n, .slice A L c] 24)) w1 := hb1.mono (by simp)
      have Z1 : w.heap.size + 1 ≤ w1.heap.size := by have := hb1.size; simp at this; omega
      clear hb1
      go_wp2_with fail
      refine (KEY0.out _ _ own1.sl.2).mono ?_
      rintro e w2 ⟨A2, c2, rfl, own2, hb2⟩
      have B2 := B1.trans (hb2.mono Z1)
      have Z2 : w.heap.size + 1 ≤ w2.heap.size := by have := hb2.size; omega
      clear hb2 own1 B1 Z1
      go_wp2_with fail
      refine (KEY1.out _ _ _ _ _ _ _ (own2.alloc _).sl.2 (sl_new' (cell := cb) (by decide) w2 #[.bool true, .bool false] _ _ rfl rfl)).mono ?_
      rintro e w3 ⟨rfl, n3, rfl⟩
      have B3 := below_drewN (B2.alloc Z2 (.cells #[.bool true, .bool false] 4)) n3
      have Z3 : w.heap.size + 1 ≤ ((w2.alloc (.cells #[.bool true, .bool false] 4)).drewN n3).heap.size := by simp; omega
      generalize ((w2.alloc (.cells #[.bool true, .bool false] 4)).drewN n3) = w3 at B3 Z3 ⊢
      clear own2 B2 Z2
      have z3 : w.heap.size < w3.heap.size := by omega
      clear Z3
      obtain ⟨q0, q1, Z3, sg, H3⟩ := HK.out _ B3
      clear H3
      go_wp2_with fail
      refine (K2.out _ sg).mono ?_
      rintro e w4 ⟨v1, A4, n4, c4, er1, rfl, hb4, F4⟩
      have B4 := B3.trans (hb4.mono Z3)
      clear q0 q1 sg Z3
      obtain ⟨q0, q1, Z4, sg, H4⟩ := HK.out _ B4
      have z4 : w.heap.size < w4.heap.size := by omega
      have he1 : er1 = 0 := F4.out.1.trans HX.out
      subst he1
      have MX1 := Lib.hid (F4.out.2.2 rfl)
      clear hb4 B3 F4
      go_wp2_with fail
      refine (K3.out _ sg).mono ?_
      rintro e w5 ⟨v5, A5, c5, od, rfl, own5, hb5, F5⟩
      have B5 := B4.trans (hb5.mono Z4)
      clear q0 q1 sg Z4
      obtain ⟨q0, q1, Z5, sg, H5⟩ := HK.out _ B5
      have z5 : w.heap.size < w5.heap.size := by omega
      have OW5 := Lib.hid own5
      have BB5 := Lib.hid B5
      clear own5 hb5 B4 H4 z4 B5
      go_wp2_with fail
      refine (KW.out _).mono ?_
      rintro e w6 ⟨rfl, hw6⟩
      have hw6x := hw6.symm
      clear hw6
      subst hw6x
      have hks : ∀ W, Below w5.heap.size w5 W → (W.cell? ⟨w.heap.size, 0, none⟩ = some (.int .i64 n) ∧ W.cell? ⟨w.heap.size, 1, none⟩ = some (.slice A L c)) ∧ Sl W w5.heap.size 3 ce A l := fun W hW =>
        ⟨⟨(hW.cell (p := ⟨w.heap.size, 0, none⟩) z5).trans q0, (hW.cell (p := ⟨w.heap.size, 1, none⟩) z5).trans q1⟩, sg.keep hW (Nat.le_refl _)⟩
      have KS := Lib.hid hks
      clear hks sg KW
      go_upto_region 9 with fail
      go_cut [16] from 68 to 73 (fun s16 wx => ∃ (X : Nat) (A7 : Option Addr) (c7 : Nat), s16 = .pointer (some ⟨X, 0, none⟩) ∧ Hid (Bd w5 wx n L l X A7 c7))
      case first =>
        go_region_held3 (fun w' => w'.cell? ⟨w.heap.size, 0, none⟩ = some (.int .i64 n) ∧ w'.cell? ⟨w.heap.size, 1, none⟩ = some (.slice A L c))
          (first
            | go_keep
            | exact ⟨p0, p1⟩
            | exact ⟨(World.cell?_setCell_far _ _ _ _ (by dsimp only; omega)).trans ((World.cell?_setCell_far _ _ _ _ (by dsimp only; omega)).trans p0), (World.cell?_setCell_far _ _ _ _ (by dsimp only; omega)).trans ((World.cell?_setCell_far _ _ _ _ (by dsimp only; omega)).trans p1)⟩)
          (first
            | (go_at_call 23; refine (KCL.out w5.heap.size _ ((KS.out _ (by first | exact (Below.refl _ _).drew | exact (Below.refl _ _).drew.alloc (Nat.le_refl _) _)).2) (by simp)).mono ?_; rintro e wd ⟨A7, c7, rfl, own7, hb7⟩; have HB7 : Below w5.heap.size w5 wd := (by first | exact (Below.refl _ _).drew.trans (hb7.mono (Nat.le_refl _)) | exact ((Below.refl _ _).drew.alloc (Nat.le_refl _) _).trans (hb7.mono (by simp))); obtain ⟨⟨p0, p1⟩, _⟩ := KS.out _ HB7; (first | (have m4 : wd.heap[w5.heap.size]? = some (.cells #[.int .i64 0, .slice none 0 0] 24 (0, 0)) := blk_below (heap_alloc_new w5.drew _) hb7 (by simp); have m40 := blk_cell m4 0; have m41 := blk_cell m4 1; have mf0 := blk_free m4 0; have mf1 := blk_free m4 1; simp only [List.getElem?_toArray, List.getElem?_cons_zero, List.getElem?_cons_succ] at m40 m41) | skip)))
        all_goals
          go_wp2_with fail
          go_meet
          refine ⟨_, A7, c7, rfl, Lib.hid ?_⟩
          rw [HLL.out] at own7 ⊢
          first
            | exact bd_alloc own7 (by simp) HB7
            | exact bd_set own7 (by simp) HB7 (Nat.le_refl _) m4
      case rest =>
        obtain ⟨X, A7, c7, rfl, BD⟩ := hcut
        obtain ⟨w7, rfl⟩ : ∃ w7 : World, w7 = wc := ⟨_, rfl⟩
        have hjl : j < l.length := by rw [HLL.out]; exact hwi
        have B7 := BB5.out.trans (BD.out.below.mono Z5)
        clear q0 q1
        obtain ⟨q0, q1, Z7, sg7, H7⟩ := HK.out _ B7
        have z7 : w.heap.size < w7.heap.size := by omega
        obtain ⟨S, f, t, co, rfl, hS0, hS1, he, hcf, hct, hcc, g0, g1, g2⟩ := own_atE HLL.out BD.out.own hjl
        obtain ⟨bO, oO, f2, t2, co2, rfl, hbO, he2, ocf, oct, occ⟩ := (KS.out _ BD.out.below).2.atE hjl
        have x0 := blk_cell BD.out.box 0
        have x1 := blk_cell BD.out.box 1
        simp only [List.getElem?_toArray, List.getElem?_cons_zero, List.getElem?_cons_succ] at x0 x1
        have zX := lt_of_block BD.out.box
        have hXS : ¬ X = S := fun e => (BD.out.own.ne_ BD.out.box (by decide)) (by rw [e]; rfl)
        obtain ⟨f0, f1, t0, t1⟩ := HG.out.ends _ (List.getElem_mem hjl)
        obtain ⟨_, hcm⟩ := HG.out.cost _ (List.getElem_mem hjl)
        rw [he] at f0 f1 t0 t1 hcm
        simp only at f0 f1 t0 t1 hcm
        obtain ⟨f, rfl⟩ := Int.eq_ofNat_of_zero_le f0
        obtain ⟨t, rfl⟩ := Int.eq_ofNat_of_zero_le t0
        have hfn : f < n := by omega
        have htn : t < n := by omega
        have hco0 := (HG.out.cost _ (List.getElem_mem hjl)).1
        rw [he] at hco0
        simp only at hco0
        have hed : ed l j = ((f : Int), (t : Int), co) := by rw [ed_at hjl, he]
        have hfr : fr l j = f := by rw [fr, hed]
        have hen : en l j = t := by rw [en, hed]
        have hcp : cpt l j = co := by rw [cpt, hed]
        have zj : (j : Int) < (L : Int) := by omega
        have HPARTS := Lib.hid (And.intro hfr (And.intro hen hcp))
        clear hed hfr hen hcp f0 t0 sg7 ocf oct occ he2 f2 t2 co2
        by_cases hc0 : co = 10000
        · have d1 : (co == 10000) = true := by rw [beq_iff_eq]; exact hc0
          clear hc0
          go_wp2
          go_ret
          exact ⟨rfl, H7⟩
        · have d1 : (co == 10000) = false := by rw [beq_eq_false_iff_ne]; exact hc0
          have wco : IntKind.i64.wrap (co + 1) = co + 1 := by simp [IntKind.wrap, IntKind.bits, IntKind.signed]; omega
          have hset := own_setj HLL.out BD.out.own j 2 ((f : Int), (t : Int), co + 1) (by omega) (by decide) (fun q hq hne => by
            rw [he]
            match q, hq, hne with
            | 0, _, _ => rfl
            | 1, _, _ => rfl
            | 2, _, hne => exact absurd rfl hne)
          have hpl : plus l j = l.set j ((f : Int), (t : Int), co + 1) := by unfold plus; rw [ed_at hjl, he]
          rw [← hpl] at hset
          have hset' : Own (w7.setCell ⟨S, j * 3 + 2, none⟩ (.int .i64 (co + 1))) w5.heap.size 27 3 ce (.slice (some ⟨S, 0, none⟩) L c7) (plus l j) := hset
          have hB8 := BD.out.below.setCell (p := ⟨S, j * 3 + 2, none⟩) hS0 (.int .i64 (co + 1))
          have hbx8 := blk_far BD.out.box (p := ⟨S, j * 3 + 2, none⟩) (by dsimp only; omega) (.int .i64 (co + 1))
          have km := KMX.out _ _ c7 hset'.sl.2
          have KM := Lib.hid km
          have HB8 := Lib.hid hB8
          have HX8 := Lib.hid hbx8
          have hSX : ¬ S = X := fun e => hXS e.symm
          have hwS : ¬ w.heap.size = S := by omega
          have HHE := Lib.hid he
          clear hset hset' hpl km hB8 hbx8 he hc0
          go_wp2_with fail
          refine KM.out.mono ?_
          rintro e w9 ⟨m, A9, n9, c9, er9, rfl, hb9, F9⟩
          obtain ⟨hfr, hen, hcp⟩ := HPARTS.out
          obtain ⟨he9, ⟨hv0, hv1⟩, hm⟩ := LAW.out v1 v5 m er9 od (by rw [hcp]; have := hcm; have := d1; rw [beq_eq_false_iff_ne] at this; omega) MX1.out F5.out F9.out
          subst he9
          have hB9 := HB8.out.trans (hb9.mono HB8.out.size)
          have B9 := BB5.out.trans (hB9.mono Z5)
          clear q0 q1 x0 x1 hcf hct hcc g0 g1 g2 KM hb9 F5 H7 B7
          obtain ⟨q0, q1, Z9, sg9, H9⟩ := HK.out _ B9
          have z9 : w.heap.size < w9.heap.size := by omega
          obtain ⟨bO', oO', f2, t2, co2, hA, hbO', he2, ocf, oct, occ⟩ := (KS.out _ hB9).2.atE hjl
          injection hA with hA
          injection hA with hA1 hA2
          subst hA1 hA2
          rw [HHE.out] at he2
          injection he2 with e1' e2'
          injection e2' with e2' e3'
          subst e1' e2' e3'
          have hz59 := hB9.size
          have zbO : bO < w9.heap.size := by omega
          obtain ⟨bs, os, rfl, hbs, sf⟩ := side_sl (OW5.out.keep hB9) hfn
          obtain ⟨bs', os', hA, _, st⟩ := side_sl (OW5.out.keep hB9) htn
          injection hA with hA
          injection hA with hA1 hA2
          subst hA1 hA2
          rw [hfr, hen] at hm
          have hnn : ((n : Int) == (n : Int)) = true := by simp
          have zf : (f : Int) < (n : Int) := by omega
          have zt : (t : Int) < (n : Int) := by omega
          clear sg9 hfr hen hcp HPARTS KS HB8 HX8 B9 BD BB5
          rcases hm with hm | ⟨hm, hfo, hto⟩
          · subst hm
            have wv : IntKind.i64.wrap (m + 1) = m + 1 := by simp [IntKind.wrap, IntKind.bits, IntKind.signed]; omega
            have dm : (m == m) = true := by simp
            have d2 : decide (m ≤ m + 1) = true := decide_eq_true (by omega)
            have d3 : decide (m ≥ m) = true := decide_eq_true (Int.le_refl _)
            clear LAW F9 KMX
            go_wp2
            go_ret
            exact ⟨by first | rfl | simp, H9.alloc H9.size _⟩
          · subst hm
            rw [decide_eq_true hfo] at sf
            rw [decide_eq_false hto] at st
            have wv : IntKind.i64.wrap (v1 + 1) = v1 + 1 := by simp [IntKind.wrap, IntKind.bits, IntKind.signed]; omega
            have dm : (v1 + 1 == v1) = false := by rw [beq_eq_false_iff_ne]; omega
            have d2 : decide (v1 + 1 ≤ v1 + 1) = true := decide_eq_true (Int.le_refl _)
            have d3 : decide (v1 + 1 ≥ v1) = true := decide_eq_true (by omega)
            have d4 : decide (v1 ≤ v1 + 1) = true := decide_eq_true (by omega)
            clear LAW F9 KMX hfo hto
            go_wp2
            go_ret
            exact ⟨by first | rfl | simp, H9.alloc H9.size _⟩
  · have k3 := fun W h => cut_no N a b A c l _ rfl hx hll W h
    have hne : (ferr N l a b != 0) = true := by rw [bne_iff_ne]; exact hx
    have hfe : ∀ v er, MaxFact N a b l v er → er = ferr N l a b := fun v er h => h.1
    generalize ferr N l a b = x at *
    have K3 := Lib.hid k3
    have HFE := Lib.hid hfe
    clear k3 hx hfe
    go_enter Try.func13, Try.ntmps13
    go_wp2_with fail
    refine (two_any _).mono ?_
    rintro e w1 ⟨g, rfl, own1, hb1⟩
    have B1 : Below (w.heap.size + 1) (w.alloc (.cells #[.int .i64 N, .slice A l.length c] 24)) w1 := hb1.mono (by simp)
    have Z1 : w.heap.size + 1 ≤ w1.heap.size := by have := hb1.size; simp at this; omega
    clear hb1
    go_wp2_with fail
    refine (KEY0.out _ _ own1.sl.2).mono ?_
    rintro e w2 ⟨A2, c2, rfl, own2, hb2⟩
    have B2 := B1.trans (hb2.mono Z1)
    have Z2 : w.heap.size + 1 ≤ w2.heap.size := by have := hb2.size; omega
    clear hb2 own1 B1 Z1
    go_wp2_with fail
    refine (KEY1.out _ _ _ _ _ _ _ (own2.alloc _).sl.2 (sl_new' (cell := cb) (by decide) w2 #[.bool true, .bool false] _ _ rfl rfl)).mono ?_
    rintro e w3 ⟨rfl, n3, rfl⟩
    have B3 := below_drewN (B2.alloc Z2 (.cells #[.bool true, .bool false] 4)) n3
    have Z3 : w.heap.size + 1 ≤ ((w2.alloc (.cells #[.bool true, .bool false] 4)).drewN n3).heap.size := by simp; omega
    generalize ((w2.alloc (.cells #[.bool true, .bool false] 4)).drewN n3) = w3 at B3 Z3 ⊢
    clear own2 B2 Z2
    have z3 : w.heap.size < w3.heap.size := by omega
    clear Z3
    obtain ⟨q0, q1, Z3, sg, H3⟩ := HK.out _ B3
    clear H3
    go_wp2_with fail
    refine (K2.out _ sg).mono ?_
    rintro e w4 ⟨v1, A4, n4, c4, er1, rfl, hb4, F4⟩
    have he := HFE.out _ _ F4.out
    subst he
    have B4 := B3.trans (hb4.mono Z3)
    clear q0 q1 sg Z3 F4 hb4 HFE
    obtain ⟨q0, q1, Z4, sg, H4⟩ := HK.out _ B4
    have z4 : w.heap.size < w4.heap.size := by omega
    clear H4 B3
    go_wp2_with fail
    refine (K3.out _ sg).mono ?_
    rintro e w5 ⟨rfl, hb5⟩
    have B5 := B4.trans (hb5.mono Z4)
    clear q0 q1 sg Z4
    obtain ⟨q0, q1, Z5, sg, H5⟩ := HK.out _ B5
    have z5 : w.heap.size < w5.heap.size := by omega
    have hxx : (er1 == er1) = true := by simp
    clear hb5 B4 z4 q0 q1 sg
    go_wp2
    go_ret
    exact ⟨by first | rfl | simp, H5⟩

theorem own : ownKnob Try.prog.godebug = none := by kernel_rfl
theorem laidOut : laidOutB Try.prog = true := by kernel_rfl

set_option maxRecDepth 100000 in
theorem lifted (os : Os) (started : os.Started) (H : Type) (enc : TypeId × Value → H) :
    ReturnsInHanded {} Try.checked os 13 .any (Rows.flowMoreSpec.pre6 enc Try.prog Try.f13 Rows.flowMoreRow.domain false) (Rows.flowMoreSpec.post enc Try.prog Try.f13 false true false false) := by
  refine returnsInHanded_of_change (C := Try.checked) own started (by kernel_rfl) Try.func13
    (ChangeSpec.witness6 (enc := enc) (C := Try.checked) false ⟨#[], #[.agg #[.int .i64 0, .slice none 0 0], .int .i64 0, .int .i64 0, .int .i64 0], []⟩ 8 (by kernel_rfl) (by kernel_rfl) (by kernel_rfl) (by kernel_rfl)) ?_
  intro W base args ds gs before hval0 hW hcnd _
  have hval : ∀ (j : Nat) t v, Try.f13.params[j]? = some t → args[j]? = some v → Value.okWide Try.prog W .any base t v := hval0
  have hW' := hW
  obtain ⟨p, q, hA0, hV, rfl, hfz, hnd⟩ := hW
  have hA : DataW.TrodAll enc Try.prog W 0 (fun _ => true) true Try.f13.params.toList args.toList ds p := hA0
  rw [Try.params13] at hA hval
  obtain ⟨v0, vs0, d0, ds0, p0, q0, hargs, rfl, rfl, h0, r0⟩ := trodAll_cons hA
  obtain ⟨v1, vs1, d1, ds1, p1, q1, rfl, rfl, rfl, h1, r1⟩ := trodAll_cons r0
  obtain ⟨v2, vs2, d2, ds2, p2, q2, rfl, rfl, rfl, h2, r2⟩ := trodAll_cons r1
  obtain ⟨v3, vs3, d3, ds3, p3, q3, rfl, rfl, rfl, h3, r3⟩ := trodAll_cons r2
  obtain ⟨rfl, rfl, rfl⟩ := trodAll_nil r3
  obtain rfl : args = #[v0, v1, v2, v3] := by cases args; simp_all
  obtain ⟨rfl, rfl⟩ := trodVars_none hV
  obtain ⟨N0, A0, c0, l0, dd0, rfl, hN0, hG0, hb0, rfl, hd0⟩ := open_net Try.underlying24 (by kernel_rfl) (by kernel_rfl) Try.underlying3 Try.underlying22 Try.underlying27 (by kernel_rfl) (by kernel_rfl) Try.underlying3 Try.underlying3 Try.underlying3 (hval 0 24 v0 rfl rfl) h0
  obtain ⟨a1, rfl, rfl, rfl, wa1⟩ := open_int Try.underlying3 (hval 1 3 v1 rfl rfl) h1
  obtain ⟨a2, rfl, rfl, rfl, wa2⟩ := open_int Try.underlying3 (hval 2 3 v2 rfl rfl) h2
  obtain ⟨a3, rfl, rfl, rfl, wa3⟩ := open_int Try.underlying3 (hval 3 3 v3 rfl rfl) h3
  refine (walk W N0 A0 c0 l0 hG0 a1 (wf_bd wa1) a2 (wf_bd wa2) a3 (wf_bd wa3)).mono fun e W' ⟨he, hB⟩ => ?_
  subst he
  exact ⟨_, rfl, post_of_law laidOut rfl Try.underlying4 rfl (by intro t ht; rw [Try.params13] at ht; simp at ht; rcases ht with rfl | rfl | rfl | rfl <;> exact ⟨by kernel_rfl, of_decide_eq_true (by kernel_rfl)⟩) hW' rfl hB⟩

theorem holds : Rows.FlowMoreSaid :=
  OpenClaim.holds_of_wide 13 Try.f13 rfl rfl rfl rfl rfl rfl rfl ⟨rfl, rfl, rfl, rfl, rfl⟩ rfl rfl rfl rfl rfl (by kernel_rfl) Try.func13 (by kernel_rfl)
    (of_decide_eq_true (by kernel_rfl)) (by unfold Func.isWrapper; first | (rw [if_pos (by decide +kernel)]; kernel_rfl) | (rw [if_neg (by decide +kernel)]; exact ⟨rfl, rfl⟩))
    (fun os started H enc _ => lifted os started H enc)
#print axioms holds
end Go.Proofs.Ytlcgkbkmfelcfaa.FlowMoreLaw
