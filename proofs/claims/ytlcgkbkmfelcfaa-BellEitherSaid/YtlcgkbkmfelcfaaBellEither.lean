/- For every net: BellEither answers true (there is either a bad cycle, or there are heights that leave no edge below 0), and the net reads as before. No condition. -/
import Derived.Test.YtlcgkbkmfelcfaaRows
import Derived.Test.YtlcgkbkmfelcfaaOpen
import Derived.Test.YtlcgkbkmfelcfaaCycWalk
import Derived.Test.YtlcgkbkmfelcfaaJohnLift
import Derived.Test.YtlcgkbkmfelcfaaWalkCost
import Derived.Test.YtlcgkbkmfelcfaaCfnEither
import Derived.Test.YtlcgkbkmfelcfaaStdI
import Derived.Deep.RegionHeld3
import Derived.BigQuiet
namespace Go.Proofs.Ytlcgkbkmfelcfaa.BellEitherLaw
open Go.ChangeShapes Go.WideShapes Go.ChangeAt Go.RowKit Go.Proofs.Ytlcgkbkmfelcfaa NetLaw BellLaw JohnLaw BellCyc JohnPlain CycLaw Go.Proofs.Ytlcgkbkmfelcfaa.Net Go.Proofs.Ytlcgkbkmfelcfaa.CycWalk Go.Proofs.Ytlcgkbkmfelcfaa.John Go.Proofs.Ytlcgkbkmfelcfaa.Std
set_option linter.unusedSimpArgs false
set_option linter.unusedVariables false

theorem one_e : cerr 1 [(0, 0, -1)] = 0 := by decide +kernel
theorem cyc_one (W : World) (g : Nat) (h : Sl W W.heap.size 3 ce (some ⟨g, 0, none⟩) [(0, 0, -1)]) :
    Calls Try.prog 31 #[.agg #[.int .i64 1, .slice (some ⟨g, 0, none⟩) 1 1]] W fun e w' => ∃ A c, e = .returned (.tuple #[.slice A 1 c, .int .i64 0]) ∧ Own w' W.heap.size 3 1 ci (.slice A 1 c) [0] ∧ Below W.heap.size W w' := by
  refine (cycle_any 1 (some ⟨g, 0, none⟩) 1 [(0, 0, -1)] W h (by decide)).mono ?_
  rintro e w' ⟨_, k2, k3⟩
  obtain ⟨A, c, v, m, k4, k5, k6⟩ := k2 one_e
  have hm : m = 1 := by have := k6.pos; have := k6.le; have e : (1 : Int).toNat = 1 := rfl; rw [e] at this; omega
  subst hm
  have hv : v = 0 := by have := k6.rng 0; simp only [it] at this; have e : ((1 : Int).toNat : Int) = 1 := rfl; rw [e] at this; omega
  subst hv
  exact ⟨A, c, k4, k5, k3⟩
theorem cyc_no (N : Int) (A : Option Addr) (c : Nat) (l : List E) (x : Int) (hx : cerr N l = x) (h0 : x ≠ 0) (hll : l.length ≤ 9223372036854775807) (W : World) (h : Sl W W.heap.size 3 ce A l) :
    Calls Try.prog 31 #[.agg #[.int .i64 N, .slice A l.length c]] W fun e w' => e = .returned (.tuple #[.slice none 0 0, .int .i64 x]) ∧ Below W.heap.size W w' := by
  subst hx
  exact (cycle_any N A c l W h hll).mono fun e w' ⟨k1, _, k3⟩ => ⟨k1 h0, k3⟩
theorem cyc_yes (n : Nat) (A : Option Addr) (c : Nat) (l : List E) (hx : cerr n l = 0) (hll : l.length ≤ 9223372036854775807) (W : World) (h : Sl W W.heap.size 3 ce A l) :
    Calls Try.prog 31 #[.agg #[.int .i64 n, .slice A l.length c]] W fun e w' => ∃ A c v m, e = .returned (.tuple #[.slice A m c, .int .i64 0]) ∧ Own w' W.heap.size 3 1 ci (.slice A m c) (fw (hs n l).2.1 v m).reverse ∧ Hid (Cyc n l (hs n l).2.1 v m) ∧ Below W.heap.size W w' := by
  refine (cycle_any n A c l W h hll).mono ?_
  rintro e w' ⟨_, k2, k3⟩
  obtain ⟨A, c, v, m, k4, k5, k6⟩ := k2 hx
  rw [Int.toNat_natCast] at k5 k6
  exact ⟨A, c, v, m, k4, k5, Lib.hid k6, k3⟩
theorem lift_no (N : Int) (A : Option Addr) (c : Nat) (l : List E) (x : Int) (hx : jerr N l = x) (h0 : x ≠ 0) (hll : l.length ≤ 9223372036854775807) (W : World) (h : Sl W W.heap.size 3 ce A l) :
    Calls Try.prog 32 #[.agg #[.int .i64 N, .slice A l.length c]] W fun e w' => e = .returned (.tuple #[.slice none 0 0, .int .i64 x]) ∧ Below W.heap.size W w' := by
  subst hx
  exact (lift_any N A c l W h hll).mono fun e w' ⟨k1, _, k3⟩ => ⟨k1 h0, k3⟩
theorem lift_yes (n : Nat) (A : Option Addr) (c : Nat) (l : List E) (hx : jerr n l = 0) (hll : l.length ≤ 9223372036854775807) (W : World) (h : Sl W W.heap.size 3 ce A l) :
    Calls Try.prog 32 #[.agg #[.int .i64 n, .slice A l.length c]] W fun e w' => ∃ S, e = .returned (.tuple #[.slice (some ⟨S, 0, none⟩) n n, .int .i64 0]) ∧ Own w' W.heap.size 3 1 ci (.slice (some ⟨S, 0, none⟩) n n) (hs n l).1 ∧ Below W.heap.size W w' := by
  refine (lift_any n A c l W h hll).mono ?_
  rintro e w' ⟨_, k2, k3⟩
  obtain ⟨S, k4, k5⟩ := k2 hx
  rw [Int.toNat_natCast] at k4 k5
  exact ⟨S, k4, k5, k3⟩
theorem news1b {w : World} {e : TypeId} {x : Int} {g : Nat} (hg : w.heap.size = g) : ∀ j, j < 1 → (w.alloc (.cells #[.int .i64 x] e)).cell? ⟨g, j, none⟩ = some (ci x j) := by
  subst hg
  exact news1
/-- what the closure asks -/
def bad (D : List Int) (e : E) : Bool := decide (e.2.2 + ht D e.1 - ht D e.2.1 < 0)
set_option maxRecDepth 100000 in
set_option maxHeartbeats 1000000 in
theorem low_any (g S n : Nat) (D : List Int) (f t : Nat) (k : Int) (w : World) (h0 : w.cell? ⟨g, 0, none⟩ = some (.slice (some ⟨S, 0, none⟩) n n)) (h1 : w.cell? ⟨S, f, none⟩ = some (.int .i64 (ht D f))) (h2 : w.cell? ⟨S, t, none⟩ = some (.int .i64 (ht D t))) (hf : f < n) (ht' : t < n) (hg : g < w.heap.size) (hS : S < w.heap.size)
    (hk : -10000 ≤ k ∧ k ≤ 10000) (b1 : -384000000 ≤ ht D f ∧ ht D f ≤ 0) (b2 : -384000000 ≤ ht D t ∧ ht D t ≤ 0) :
    Calls Try.prog 37 #[.agg #[.int .i64 f, .int .i64 t, .int .i64 k], .pointer (some ⟨g, 0, none⟩)] w fun e w' => e = .returned (.bool (bad D (f, t, k))) ∧ Below w.heap.size w w' := by
  have hbd : bad D (f, t, k) = decide (k + ht D f - ht D t < 0) := rfl
  rw [hbd]
  clear hbd
  generalize ht D (f : Int) = x at *
  generalize ht D (t : Int) = y at *
  obtain ⟨k0, k1⟩ := hk
  obtain ⟨x0, x1⟩ := b1
  obtain ⟨y0, y1⟩ := b2
  go_enter Try.func37, Try.ntmps37
  go_wp2
  go_quiet (fail)
  go_wp2
  go_ret
  exact ⟨by first | rfl | simp, below_drewN ((Below.refl _ _).alloc (Nat.le_refl _) _) _⟩

set_option maxRecDepth 100000 in
set_option maxHeartbeats 4000000 in
theorem walk (w : World) (N : Int) (A : Option Addr) (c : Nat) (l : List E) (hA : Arg w 3 ce A c l) :
    Calls Try.prog 6 #[.agg #[.int .i64 N, .slice A l.length c]] w fun e w' => e = .returned (.bool true) ∧ Below w.heap.size w w' := by
  have hs' := hA.sl
  have hll : l.length ≤ 9223372036854775807 := Nat.le_trans hA.cap hA.max
  obtain ⟨i0, hi, hz0, hz1, hz2⟩ := info_parts infoInt
  clear hA
  have hw0 : Below w.heap.size w (w.alloc (.cells #[.int .i64 N, .slice A l.length c] 24)) := (Below.refl _ _).alloc (Nat.le_refl _) _
  have hkeep : ∀ W, Below (w.heap.size + 1) (w.alloc (.cells #[.int .i64 N, .slice A l.length c] 24)) W → W.cell? ⟨w.heap.size, 0, none⟩ = some (.int .i64 N) ∧ W.cell? ⟨w.heap.size, 1, none⟩ = some (.slice A l.length c) ∧ w.heap.size + 1 ≤ W.heap.size ∧ Sl W W.heap.size 3 ce A l ∧ Below w.heap.size w W := fun W hW => by
    obtain ⟨cc, _⟩ := keepAt hW (Nat.lt_succ_self _)
    have q0 := cc 0
    have q1 := cc 1
    simp at q0 q1
    have H := hw0.trans (hW.mono (Nat.le_succ _))
    have hz := hW.size
    simp at hz
    exact ⟨q0, q1, hz, (hs'.keep H (Nat.le_refl _)).more H.size, H⟩
  have HK := Lib.hid hkeep
  clear hkeep
  have key0 := fun W g h => cyc_one W g h
  have key1 := fun W A A' c c' B B' h h' => equal_int' A A' 1 1 c c' [0] [0] B B' W h h' rfl rfl (by decide) true (by decide)
  have kc := fun W h => check_any N A c l W h hll
  have KEY0 := Lib.hid key0
  have KEY1 := Lib.hid key1
  have KC := Lib.hid kc
  clear key0 key1 kc
  by_cases hx : chk N l = 0
  · have hg := chk_zero.1 hx
    have hN1 := hg.lo
    have hN2 := hg.hi
    have h6 := hg.len
    rw [hx] at KC
    obtain ⟨n, rfl⟩ := Int.eq_ofNat_of_zero_le (show 0 ≤ N by omega)
    have hce : cerr n l = if 0 ≤ (hs n l).2.2 then 0 else 5 := by rw [cerr, if_neg (by simpa using hx)]; rfl
    have hje : jerr n l = if 0 ≤ (hs n l).2.2 then 6 else 0 := by rw [jerr, if_neg (by simpa using hx)]; rfl
    by_cases hlast : 0 ≤ (hs n l).2.2
    · rw [if_pos hlast] at hce hje
      have k2 := fun W h => cyc_yes n A c l hce hll W h
      have k3 := fun W h => lift_no n A c l 6 hje (by decide) hll W h
      have K2 := Lib.hid k2
      have K3 := Lib.hid k3
      have HG := Lib.hid hg
      clear k2 k3 hce hje hlast hg hx
      go_enter Try.func6, Try.ntmps6
      go_wp2_with fail
      refine (KEY0.out _ _ (sl_new' (by decide) (w.alloc (.cells #[.int .i64 n, .slice A l.length c] 24)) #[.int .i64 0, .int .i64 0, .int .i64 (-1)] 27 _ (by simp) rfl)).mono ?_
      rintro e w2 ⟨A2, c2, rfl, own2, hb2⟩
      have B2 : Below (w.heap.size + 1) (w.alloc (.cells #[.int .i64 n, .slice A l.length c] 24)) w2 := ((Below.refl _ _).alloc (by simp) (.cells #[.int .i64 0, .int .i64 0, .int .i64 (-1)] 27)).trans (hb2.mono (by simp))
      have Z2 : w.heap.size + 1 ≤ w2.heap.size := by have := hb2.size; simp at this; omega
      clear hb2
      go_wp2_with fail
      refine (KEY1.out _ _ _ _ _ _ _ (own2.alloc _).sl.2 (sl_new' (by decide) w2 #[.int .i64 0] _ _ rfl rfl)).mono ?_
      rintro e w3 ⟨rfl, n3, rfl⟩
      have B3 := below_drewN (B2.alloc Z2 (.cells #[.int .i64 0] 3)) n3
      have Z3 : w.heap.size + 1 ≤ ((w2.alloc (.cells #[.int .i64 0] 3)).drewN n3).heap.size := by simp; omega
      generalize ((w2.alloc (.cells #[.int .i64 0] 3)).drewN n3) = w3 at B3 Z3 ⊢
      clear own2 B2 Z2
      have z3 : w.heap.size < w3.heap.size := by omega
      clear Z3
      obtain ⟨q0, q1, Z3, sg, H3⟩ := HK.out _ B3
      clear H3
      go_wp2_with fail
      refine (K2.out _ sg).mono ?_
      rintro e w4 ⟨Ac, cc, v, m, rfl, own4, CY, hb4⟩
      have B4 := B3.trans (hb4.mono Z3)
      clear q0 q1 sg Z3
      obtain ⟨q0, q1, Z4, sg, H4⟩ := HK.out _ B4
      have z4 : w.heap.size < w4.heap.size := by omega
      have hm1 := CY.out.pos
      obtain ⟨m, rfl⟩ : ∃ m', m = m' + 1 := ⟨m - 1, by omega⟩
      have hmn := CY.out.le
      clear hb4 B3
      go_wp2_with fail
      refine (K3.out _ sg).mono ?_
      rintro e w5 ⟨rfl, hb5⟩
      have B5 := B4.trans (hb5.mono Z4)
      clear q0 q1 sg Z4
      obtain ⟨q0, q1, Z5, sg, H5⟩ := HK.out _ B5
      have z5 : w.heap.size < w5.heap.size := by omega
      have own5 := (own4.keep hb5).alloc (.cells #[.slice none 0 0] 25)
      clear hb5 B4 H4 z4 own4
      have B5' := B5.alloc Z5 (.cells #[.slice none 0 0] 25)
      have hbx := heap_alloc_new w5 (.cells #[.slice none 0 0] 25)
      obtain ⟨q0', q1', Z5', sg', H5'⟩ := HK.out _ B5'
      go_wp2_with fail
      refine (KC.out _ sg').mono ?_
      rintro e w6 ⟨rfl, hb6⟩
      have B6 := B5'.trans (hb6.mono Z5')
      have hbx6 := blk_below hbx hb6 (by simp)
      have own6 := own5.keep hb6
      clear q0 q1 q0' q1' sg sg' H5 H5' B5 B5' hbx hb6 own5 Z5 Z5' z5
      obtain ⟨q0, q1, Z6, sg, H6⟩ := HK.out _ B6
      have z6 : w.heap.size < w6.heap.size := by omega
      obtain ⟨s, hs0, hcost⟩ := cyc_cost HG.out CY.out
      have hL : (fw (hs n l).2.1 v (m + 1)).reverse.length = m + 1 := by rw [List.length_reverse, fw_len]
      have hLx : (fw (hs n l).2.1 v (m + 1)).reverse.getD 0 0 = it (hs n l).2.1 m v := by
        rw [bk_succ]; rfl
      rw [Nat.add_sub_cancel] at hcost
      generalize it (hs n l).2.1 m v = x at hcost hLx
      generalize (fw (hs n l).2.1 v (m + 1)).reverse = L at *
      obtain ⟨S, c2, hv, _, hSl, _⟩ := own6.some_ (by rw [hL]; omega)
      injection hv with hv hv2 hv3
      subst hv
      clear hv2 hv3
      obtain ⟨qc, _⟩ := own_at1 hL own6 (show 0 < m + 1 by omega)
      rw [hLx] at qc
      have hks : ∀ W, Below w6.heap.size w6 W → W.cell? ⟨w.heap.size, 0, none⟩ = some (.int .i64 n) ∧ W.cell? ⟨w.heap.size, 1, none⟩ = some (.slice A l.length c) ∧ W.cell? ⟨S, 0, none⟩ = some (.int .i64 x) ∧ Sl W W.heap.size 3 ce A l := fun W hW =>
        ⟨(hW.cell (p := ⟨w.heap.size, 0, none⟩) z6).trans q0, (hW.cell (p := ⟨w.heap.size, 1, none⟩) z6).trans q1, (hW.cell (p := ⟨S, 0, none⟩) hSl).trans qc, (sg.keep hW (Nat.le_refl _)).more hW.size⟩
      have k5 : ∀ W, Below w6.heap.size w6 W → Calls Try.prog 35 #[.slice (some ⟨S, 0, none⟩) (m + 1) cc] W fun e w' => ∃ A' c', e = .returned (.slice A' (m + 1) c') ∧ Own w' W.heap.size 3 1 ci (.slice A' (m + 1) c') L ∧ Below W.heap.size W w' := fun W hW => by
        have h := clone_int (some ⟨S, 0, none⟩) cc L w6.heap.size W ((own6.sl.2).keep hW (Nat.le_refl _)) hW.size (fun e => by cases e) (by omega)
        rw [hL] at h
        refine h.mono ?_
        rintro e w' ⟨A', c', h1, h2, h3⟩
        rw [hL] at h1 h2
        exact ⟨A', c', h1, h2, h3⟩
      have kco : ∀ W A' c', Sl W W.heap.size 3 ce A l → Sl W W.heap.size 1 ci A' (L ++ [x]) → Calls Try.prog 34 #[.agg #[.int .i64 n, .slice A l.length c], .slice A' (m + 1 + 1) c'] W fun e w' => e = .returned (.tuple #[.int .i64 s, .int .i64 0]) ∧ Below W.heap.size W w' := fun W A' c' h1 h2 => by
        have h := Walk.cost_any n A c l A' c' (L ++ [x]) W h1 h2 hll (by rw [List.length_append, hL]; simp; omega)
        rw [hcost] at h
        rw [List.length_append, hL] at h
        exact h
      have r0 := blk_cell hbx6 0
      simp only [List.getElem?_toArray, List.getElem?_cons_zero, List.getElem?_cons_succ] at r0
      have zb := lt_of_block hbx6
      have KS := Lib.hid hks
      have K5 := Lib.hid k5
      have KCO := Lib.hid kco
      have HL := Lib.hid hL
      have HR0 := Lib.hid r0
      have e1 : ((m : Int) + 1 == 0) = false := by rw [beq_eq_false_iff_ne]; omega
      have e2 : ¬ ((m : Int) + 1 = 0) := by omega
      have e3 : (0 : Int) < (m : Int) + 1 := by omega
      clear hks k5 kco hL hLx hcost own6 sg B6 CY r0 hbx6
      go_upto_region 11 with fail
      go_cut [9, 10] from 51 to 62 (fun s9 s10 wx => s9 = .int .i64 s ∧ s10 = .int .i64 0 ∧ Hid (Below w6.heap.size w6 wx))
      case first =>
        go_region_held3 (fun w' => w'.cell? ⟨w.heap.size, 0, none⟩ = some (.int .i64 n) ∧ w'.cell? ⟨w.heap.size, 1, none⟩ = some (.slice A l.length c) ∧ w'.cell? ⟨S, 0, none⟩ = some (.int .i64 x))
          (first | go_keep | exact ⟨p0, p1, p2⟩)
          (first
            | (go_at_call 35; refine (K5.out _ (by first | exact (Below.refl _ _).drew | exact (Below.refl _ _).drew.alloc (Nat.le_refl _) _)).mono ?_; rintro e wc ⟨A7, c7, rfl, ownc, hbc⟩; have HBc : Below w6.heap.size w6 wc := (by first | exact (Below.refl _ _).drew.trans (hbc.mono (Nat.le_refl _)) | exact ((Below.refl _ _).drew.alloc (Nat.le_refl _) _).trans (hbc.mono (by simp))); obtain ⟨p0, p1, p2, _⟩ := KS.out _ HBc)
            | (refine step_push _ rfl (.tmp 54) (.tmp 58) _ rfl w6.heap.size 3 i0 (.int .i64 0) 1 8 ci Try.underlying25 hi hz0 hz1 hz2 rfl (by decide) _ L (m + 1) HL.out rfl (ownc.alloc _) wc.heap.size 1 x rfl (news1b (by simp)) (fun _ _ => one_ci _ _) (by omega) (by omega) (by have := HBc.size; simp; omega) ?_; intro A4 c4 w4' hown4 hgrow4 hat4; have HB4 : Below w6.heap.size w6 w4' := (HBc.alloc HBc.size _).grown hgrow4 (by have := HBc.size; simp; omega) ownc.lo; obtain ⟨p0, p1, p2, sg4⟩ := KS.out _ HB4)
            | (refine step_push _ rfl (.tmp 54) (.tmp 58) _ rfl w6.heap.size 3 i0 (.int .i64 0) 1 8 ci Try.underlying25 hi hz0 hz1 hz2 rfl (by decide) _ L (m + 1) HL.out rfl (ownc.mono (by simp)) w6.heap.size 1 x rfl (fun j hj => ((keepAt hbc (b := w6.heap.size) (by simp)).1 _).trans (news1b (w := w6.drew) (by simp) j hj)) (fun _ _ => one_ci _ _) (by omega) (by omega) (by have := HBc.size; omega) ?_; intro A4 c4 w4' hown4 hgrow4 hat4; have HB4 : Below w6.heap.size w6 w4' := HBc.grown hgrow4 HBc.size (ownc.mono (by simp)).lo; obtain ⟨p0, p1, p2, sg4⟩ := KS.out _ HB4)
            | (go_at_call 34; refine (KCO.out _ _ _ sg4 hown4.sl.2).mono ?_; rintro e w9 ⟨rfl, hb9⟩; have HB9 : Below w6.heap.size w6 w9 := HB4.trans (hb9.mono HB4.size); obtain ⟨p0, p1, p2, _⟩ := KS.out _ HB9))
        all_goals
          go_wp2_with fail
          go_meet
          exact ⟨rfl, rfl, Lib.hid HB9⟩
      case rest =>
        obtain ⟨rfl, rfl, HB9⟩ := hcut
        have r9 := (HB9.out.cell (p := ⟨w5.heap.size, 0, none⟩) zb).trans HR0.out
        have H9 := H6.trans (HB9.out.mono H6.size)
        have zb9 : w5.heap.size < wc.heap.size := by have := HB9.out.size; omega
        have d1 : decide (s < 0) = true := decide_eq_true hs0
        clear q0 q1 qc H6 HB9
        go_wp2
        go_ret
        exact ⟨rfl, H9⟩
    · rw [if_neg hlast] at hce hje
      have hht := hs_ht hg (by omega)
      have k2 := fun W h => cyc_no n A c l 5 hce (by decide) hll W h
      have k3 := fun W h => lift_yes n A c l hje hll W h
      generalize (hs n l).1 = H at *
      have hany : l.any (bad H) = false := by
        rw [List.any_eq_false]
        intro e he
        have := hht.ok e he
        simp only [bad, decide_eq_true_eq]
        omega
      have K2 := Lib.hid k2
      have K3 := Lib.hid k3
      have HT := Lib.hid hht
      have HG := Lib.hid hg
      have HANY := Lib.hid hany
      clear k2 k3 hce hje hlast hg hx hht hany
      go_enter Try.func6, Try.ntmps6
      go_wp2_with fail
      refine (KEY0.out _ _ (sl_new' (by decide) (w.alloc (.cells #[.int .i64 n, .slice A l.length c] 24)) #[.int .i64 0, .int .i64 0, .int .i64 (-1)] 27 _ (by simp) rfl)).mono ?_
      rintro e w2 ⟨A2, c2, rfl, own2, hb2⟩
      have B2 : Below (w.heap.size + 1) (w.alloc (.cells #[.int .i64 n, .slice A l.length c] 24)) w2 := ((Below.refl _ _).alloc (by simp) (.cells #[.int .i64 0, .int .i64 0, .int .i64 (-1)] 27)).trans (hb2.mono (by simp))
      have Z2 : w.heap.size + 1 ≤ w2.heap.size := by have := hb2.size; simp at this; omega
      clear hb2
      go_wp2_with fail
      refine (KEY1.out _ _ _ _ _ _ _ (own2.alloc _).sl.2 (sl_new' (by decide) w2 #[.int .i64 0] _ _ rfl rfl)).mono ?_
      rintro e w3 ⟨rfl, n3, rfl⟩
      have B3 := below_drewN (B2.alloc Z2 (.cells #[.int .i64 0] 3)) n3
      have Z3 : w.heap.size + 1 ≤ ((w2.alloc (.cells #[.int .i64 0] 3)).drewN n3).heap.size := by simp; omega
      generalize ((w2.alloc (.cells #[.int .i64 0] 3)).drewN n3) = w3 at B3 Z3 ⊢
      clear own2 B2 Z2
      have z3 : w.heap.size < w3.heap.size := by omega
      clear Z3
      obtain ⟨q0, q1, Z3, sg, H3⟩ := HK.out _ B3
      clear H3
      go_wp2_with fail
      refine (K2.out _ sg).mono ?_
      rintro e w4 ⟨rfl, hb4⟩
      have B4 := B3.trans (hb4.mono Z3)
      clear q0 q1 sg Z3
      obtain ⟨q0, q1, Z4, sg, H4⟩ := HK.out _ B4
      have z4 : w.heap.size < w4.heap.size := by omega
      clear hb4 B3
      go_wp2_with fail
      refine (K3.out _ sg).mono ?_
      rintro e w5 ⟨S5, rfl, own5, hb5⟩
      have B5 := B4.trans (hb5.mono Z4)
      clear q0 q1 sg Z4
      obtain ⟨q0, q1, Z5, sg, H5⟩ := HK.out _ B5
      have z5 : w.heap.size < w5.heap.size := by omega
      clear hb5 B4 H4 z4
      have B5' := B5.alloc Z5 (.cells #[.slice (some ⟨S5, 0, none⟩) n n] 25)
      have hbx := heap_alloc_new w5 (.cells #[.slice (some ⟨S5, 0, none⟩) n n] 25)
      have ownA := own5.alloc (.cells #[.slice (some ⟨S5, 0, none⟩) n n] 25)
      obtain ⟨q0', q1', Z5', sg', H5'⟩ := HK.out _ B5'
      go_wp2_with fail
      refine (KC.out _ sg').mono ?_
      rintro e w6 ⟨rfl, hb6⟩
      have B6 := B5'.trans (hb6.mono Z5')
      have hbx6 := blk_below hbx hb6 (by simp)
      have own6 := ownA.keep hb6
      clear q0 q1 q0' q1' sg sg' H5 H5' B5 B5' hbx hb6 own5 ownA Z5 Z5' z5
      obtain ⟨q0, q1, Z6, sg, H6⟩ := HK.out _ B6
      have z6 : w.heap.size < w6.heap.size := by omega
      have r0 := blk_cell hbx6 0
      simp only [List.getElem?_toArray, List.getElem?_cons_zero, List.getElem?_cons_succ] at r0
      have zb := lt_of_block hbx6
      obtain ⟨_, hS5⟩ := own6.base_ S5 rfl
      have hok : CfnEither.Ok w5.heap.size l (bad H) w6 := fun W hW i hi f t co he => by
        obtain ⟨f0, f1, t0, t1⟩ := HG.out.ends _ (List.getElem_mem hi)
        have hco := HG.out.cost _ (List.getElem_mem hi)
        rw [he] at f0 f1 t0 t1 hco
        simp only at f0 f1 t0 t1 hco
        obtain ⟨f, rfl⟩ := Int.eq_ofNat_of_zero_le f0
        obtain ⟨t, rfl⟩ := Int.eq_ofNat_of_zero_le t0
        have hf : f < n := by omega
        have ht' : t < n := by omega
        have ow := own6.keep hW
        obtain ⟨d1, _⟩ := own_at1 HT.out.len ow hf
        obtain ⟨d2, _⟩ := own_at1 HT.out.len ow ht'
        have g1 : ∀ i : Nat, ht H (i : Int) = H.getD i 0 := fun i => by rw [ht, Int.toNat_natCast]
        rw [← g1] at d1 d2
        have hbw := blk_below hbx6 hW zb
        have bb := blk_cell hbw 0
        simp only [List.getElem?_toArray, List.getElem?_cons_zero, List.getElem?_cons_succ] at bb
        exact low_any w5.heap.size S5 n H f t co W bb d1 d2 hf ht' (lt_of_block hbw) (ow.base_ S5 rfl).2 hco (HT.out.bd f (by omega) (by omega)) (HT.out.bd t (by omega) (by omega))
      have kf := CfnEither.contains_fn w5.heap.size A c l (bad H) w6 sg hll hok false HANY.out
      unfold CfnEither.fnv at kf
      have KF := Lib.hid kf
      have hnn : ((n : Int) != (n : Int)) = false := by simp
      clear hok kf own6 hbx6 sg B6
      go_wp2_with fail
      refine KF.out.mono ?_
      rintro e w7 ⟨rfl, hb7⟩
      have H7 := H6.trans (hb7.mono H6.size)
      clear hb7 H6 q0 q1 r0
      go_wp2
      go_ret
      exact ⟨rfl, H7⟩
  · have hce : cerr N l = chk N l := by rw [cerr, if_pos hx]
    have hje : jerr N l = chk N l := by rw [jerr, if_pos hx]
    have k2 := fun W h => cyc_no N A c l _ hce hx hll W h
    have k3 := fun W h => lift_no N A c l _ hje hx hll W h
    have hne : (chk N l != 0) = true := by rw [bne_iff_ne]; exact hx
    have hxx : (chk N l == chk N l) = true := by simp
    generalize chk N l = x at *
    have K2 := Lib.hid k2
    have K3 := Lib.hid k3
    clear k2 k3 hce hje hx
    go_enter Try.func6, Try.ntmps6
    go_wp2_with fail
    refine (KEY0.out _ _ (sl_new' (by decide) (w.alloc (.cells #[.int .i64 N, .slice A l.length c] 24)) #[.int .i64 0, .int .i64 0, .int .i64 (-1)] 27 _ (by simp) rfl)).mono ?_
    rintro e w2 ⟨A2, c2, rfl, own2, hb2⟩
    have B2 : Below (w.heap.size + 1) (w.alloc (.cells #[.int .i64 N, .slice A l.length c] 24)) w2 := ((Below.refl _ _).alloc (by simp) (.cells #[.int .i64 0, .int .i64 0, .int .i64 (-1)] 27)).trans (hb2.mono (by simp))
    have Z2 : w.heap.size + 1 ≤ w2.heap.size := by have := hb2.size; simp at this; omega
    clear hb2
    go_wp2_with fail
    refine (KEY1.out _ _ _ _ _ _ _ (own2.alloc _).sl.2 (sl_new' (by decide) w2 #[.int .i64 0] _ _ rfl rfl)).mono ?_
    rintro e w3 ⟨rfl, n3, rfl⟩
    have B3 := below_drewN (B2.alloc Z2 (.cells #[.int .i64 0] 3)) n3
    have Z3 : w.heap.size + 1 ≤ ((w2.alloc (.cells #[.int .i64 0] 3)).drewN n3).heap.size := by simp; omega
    generalize ((w2.alloc (.cells #[.int .i64 0] 3)).drewN n3) = w3 at B3 Z3 ⊢
    clear own2 B2 Z2
    have z3 : w.heap.size < w3.heap.size := by omega
    clear Z3
    obtain ⟨q0, q1, Z3, sg, H3⟩ := HK.out _ B3
    clear H3
    go_wp2_with fail
    refine (K2.out _ sg).mono ?_
    rintro e w4 ⟨rfl, hb4⟩
    have B4 := B3.trans (hb4.mono Z3)
    clear q0 q1 sg Z3
    obtain ⟨q0, q1, Z4, sg, H4⟩ := HK.out _ B4
    have z4 : w.heap.size < w4.heap.size := by omega
    clear hb4 B3
    go_wp2_with fail
    refine (K3.out _ sg).mono ?_
    rintro e w5 ⟨rfl, hb5⟩
    have B5 := B4.trans (hb5.mono Z4)
    clear q0 q1 sg Z4
    obtain ⟨q0, q1, Z5, sg, H5⟩ := HK.out _ B5
    have z5 : w.heap.size < w5.heap.size := by omega
    clear hb5 B4 H4 z4
    have B5' := B5.alloc Z5 (.cells #[.slice none 0 0] 25)
    obtain ⟨q0', q1', Z5', sg', H5'⟩ := HK.out _ B5'
    go_wp2_with fail
    refine (KC.out _ sg').mono ?_
    rintro e w6 ⟨rfl, hb6⟩
    have H6 := H5'.trans (hb6.mono H5'.size)
    clear hb6 q0 q1 q0' q1' sg sg' H5 H5' B5 B5'
    go_wp2
    go_ret
    exact ⟨rfl, H6⟩

theorem own : ownKnob Try.prog.godebug = none := by kernel_rfl
theorem laidOut : laidOutB Try.prog = true := by kernel_rfl

set_option maxRecDepth 100000 in
theorem lifted (os : Os) (started : os.Started) (H : Type) (enc : TypeId × Value → H) :
    ReturnsInHanded {} Try.checked os 6 .any (Rows.bellEitherSpec.pre6 enc Try.prog Try.f6 Rows.bellEitherRow.domain false) (Rows.bellEitherSpec.post enc Try.prog Try.f6 false true false false) := by
  refine returnsInHanded_of_change (C := Try.checked) own started (by kernel_rfl) Try.func6
    (ChangeSpec.witness6 (enc := enc) (C := Try.checked) false ⟨#[], #[.agg #[.int .i64 0, .slice none 0 0]], []⟩ 8 (by kernel_rfl) (by kernel_rfl) (by kernel_rfl) (by kernel_rfl)) ?_
  intro W base args ds gs before hval0 hW hcnd _
  have hval : ∀ (j : Nat) t v, Try.f6.params[j]? = some t → args[j]? = some v → Value.okWide Try.prog W .any base t v := hval0
  have hW' := hW
  obtain ⟨p, q, hA0, hV, rfl, hfz, hnd⟩ := hW
  have hA : DataW.TrodAll enc Try.prog W 0 (fun _ => true) true Try.f6.params.toList args.toList ds p := hA0
  rw [Try.params6] at hA hval
  obtain ⟨v0, vs0, d0, ds0, p0, q0, hargs, rfl, rfl, h0, r0⟩ := trodAll_cons hA
  obtain ⟨rfl, rfl, rfl⟩ := trodAll_nil r0
  obtain rfl : args = #[v0] := by cases args; simp_all
  obtain ⟨rfl, rfl⟩ := trodVars_none hV
  obtain ⟨N0, A0, c0, l0, dd0, rfl, hN0, hG0, hb0, rfl, hd0⟩ := open_net Try.underlying24 (by kernel_rfl) (by kernel_rfl) Try.underlying3 Try.underlying22 Try.underlying27 (by kernel_rfl) (by kernel_rfl) Try.underlying3 Try.underlying3 Try.underlying3 (hval 0 24 v0 rfl rfl) h0
  refine (walk W N0 A0 c0 l0 hG0).mono fun e W' ⟨he, hB⟩ => ?_
  subst he
  exact ⟨_, rfl, post_of_law laidOut rfl Try.underlying4 rfl (by intro t ht; rw [Try.params6] at ht; simp at ht; subst ht <;> exact ⟨by kernel_rfl, of_decide_eq_true (by kernel_rfl)⟩) hW' rfl hB⟩

theorem holds : Rows.BellEitherSaid :=
  OpenClaim.holds_of_wide 6 Try.f6 rfl rfl rfl rfl rfl rfl rfl ⟨rfl, rfl, rfl, rfl, rfl⟩ rfl rfl rfl rfl rfl (by kernel_rfl) Try.func6 (by kernel_rfl)
    (of_decide_eq_true (by kernel_rfl)) (by unfold Func.isWrapper; first | (rw [if_pos (by decide +kernel)]; kernel_rfl) | (rw [if_neg (by decide +kernel)]; exact ⟨rfl, rfl⟩))
    (fun os started H enc _ => lifted os started H enc)
#print axioms holds
end Go.Proofs.Ytlcgkbkmfelcfaa.BellEitherLaw
