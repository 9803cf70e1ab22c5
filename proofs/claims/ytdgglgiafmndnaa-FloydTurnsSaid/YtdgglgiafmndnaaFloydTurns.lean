/- For every net and two numbers: FloydTurns answers true (all of it through the net turned round is turned round), and the arguments read as before. No condition. -/
import Derived.Test.YtdgglgiafmndnaaRows
import Derived.Test.YtdgglgiafmndnaaOpen
import Derived.Test.YtdgglgiafmndnaaFloydAllFn
import Derived.Test.YtdgglgiafmndnaaFloydWideFn
import Derived.Test.YtdgglgiafmndnaaFloydReachFn
import Derived.Test.YtdgglgiafmndnaaFloydTr
import Derived.Test.YtdgglgiafmndnaaWithin
import Derived.Test.YtdgglgiafmndnaaRefs
namespace Go.Proofs.Ytdgglgiafmndnaa.FloydTurnsLaw
open Go.ChangeShapes Go.WideShapes Go.ChangeAt Go.RowKit Go.Proofs.Ytdgglgiafmndnaa NetLaw BellLaw FloydLaw Go.Proofs.Ytdgglgiafmndnaa.Net Go.Proofs.Ytdgglgiafmndnaa.Mat Go.Proofs.Ytdgglgiafmndnaa.Within Go.Proofs.Ytdgglgiafmndnaa.Refs Go.Proofs.Ytdgglgiafmndnaa.Std
open Go.Proofs.Ytdgglgiafmndnaa.RowsBool (sr_lit)
set_option linter.unusedSimpArgs false
set_option linter.unusedVariables false

theorem tr_wide (n : Nat) (l : List E) : FloydWide.wide n (tl l) = tr (FloydWide.wide n l) := tr_lat (fun a b => by omega) (fun a b => by omega) (fun e => rfl) n l
theorem tr_reach (n : Nat) (l : List E) : FloydReach.reach n (tl l) = tr (FloydReach.reach n l) := tr_lat (fun a b => by cases a <;> cases b <;> rfl) (fun a b => by cases a <;> cases b <;> rfl) (fun e => rfl) n l
theorem aerr_val {n : Nat} {l : List E} (hg : NetLaw.Good n l) : (FloydAll.aerr n l = 0 ∧ FloydAll.aerr n (tl l) = 0 ∧ all n (tl l) = tr (all n l)) ∨ (FloydAll.aerr n l = 6 ∧ FloydAll.aerr n (tl l) = 6) := by
  have h1 : ∀ l : List E, NetLaw.Good n l → FloydAll.aerr n l = if FloydAll.neg n (all n l) = true then 6 else 0 := fun l hg => by
    rw [FloydAll.aerr, if_neg (by simpa using chk_zero.2 hg), Int.toNat_natCast]
  rw [h1 l hg, h1 (tl l) (tl_good hg)]
  have hiff := tr_neg hg
  have key : ∀ l : List E, FloydAll.neg n (all n l) = false ↔ ∀ m, m < n → 0 ≤ all n l m m := fun l => by
    constructor
    · intro h m hm
      exact FloydAll.neg_false h m hm
    · intro h
      cases hn : FloydAll.neg n (all n l) with
      | false => rfl
      | true =>
        rw [FloydAll.neg, List.any_eq_true] at hn
        obtain ⟨i, hi, hlt⟩ := hn
        have := h i (List.mem_range.1 hi)
        simp at hlt
        omega
  cases hn : FloydAll.neg n (all n l) with
  | false =>
    left
    have h2 := (key l).1 hn
    have h3 := (key (tl l)).2 (hiff.1 h2)
    rw [h3]
    exact ⟨by simp, by simp, tr_all hg h2⟩
  | true =>
    right
    cases hn2 : FloydAll.neg n (all n (tl l)) with
    | true => exact ⟨by simp, by simp⟩
    | false =>
      have h2 := (key l).2 (hiff.2 ((key (tl l)).1 hn2))
      rw [hn] at h2
      cases h2
theorem all_some (N : Int) (A : Option Addr) (c : Nat) (l : List E) (hll : l.length ≤ 9223372036854775807) (x : Int) (hx : FloydAll.aerr N l = x) (h0 : x ≠ 0) (W : World) (h : Sl W W.heap.size 3 ce A l) :
    Calls Try.prog 15 #[.agg #[.int .i64 N, .slice A l.length c]] W fun e w' => e = .returned (.tuple #[.slice none 0 0, .int .i64 x]) ∧ Below W.heap.size W w' := by
  subst hx
  exact FloydAll.no_of N A c l hll h0 W h

set_option maxRecDepth 100000 in
set_option maxHeartbeats 4000000 in
theorem walk (w : World) (N : Int) (A : Option Addr) (c : Nat) (l : List E) (hA : Arg w 3 ce A c l) (i : Int) (hi : -9223372036854775808 ≤ i ∧ i ≤ 9223372036854775807) (j : Int) (hj : -9223372036854775808 ≤ j ∧ j ≤ 9223372036854775807) :
    Calls Try.prog 12 #[.agg #[.int .i64 N, .slice A l.length c], .int .i64 i, .int .i64 j] w fun e w' => e = .returned (.bool true) ∧ Below w.heap.size w w' := by
  have hs := hA.sl
  have hll : l.length ≤ 9223372036854775807 := Nat.le_trans hA.cap hA.max
  clear hA
  have hw0 : Below w.heap.size w (w.alloc (.cells #[.int .i64 N, .slice A l.length c] 24)) := (Below.refl _ _).alloc (Nat.le_refl _) _
  have key0 := fun W g h => FloydReach.two_of W g h
  have key1 := fun W A A' B B' h h' => RowsBool.same_rows A A' 2 2 2 2 [[true, true], [false, true]] [[true, true], [false, true]] B B' W h h' rfl rfl (by decide) (by decide) true (by decide)
  have KEY0 := Lib.hid key0
  have KEY1 := Lib.hid key1
  clear key0 key1
  by_cases hg : NetLaw.Good N l
  · have hN1 := hg.lo
    have hN2 := hg.hi
    have hgc := chk_zero.2 hg
    obtain ⟨n, rfl⟩ := Int.eq_ofNat_of_zero_le (show 0 ≤ N by omega)
    have k2 := fun W h => turn_yes n A c l W h hg
    obtain ⟨_, hi2⟩ := wi_spec i n (by omega) (by omega)
    obtain ⟨_, hj2⟩ := wi_spec j n (by omega) (by omega)
    have k3 := fun (W : World) => within_any i n (by omega) (by omega) W
    have k4 := fun (W : World) => within_any j n (by omega) (by omega) W
    have hv := aerr_val hg
    have hcw := tr_wide n l
    have hcr := tr_reach n l
    have hll' : (tl l).length ≤ 9223372036854775807 := by rw [tl_len]; exact hll
    have hgc' := chk_zero.2 (tl_good hg)
    have k7 := fun W h => FloydWide.yes_of n A c l hll hgc W h
    have k8 := fun W A' c' h => FloydWide.yes_of n A' c' (tl l) hll' hgc' W h
    have k9 := fun W h => FloydReach.yes_of n A c l hll hgc W h
    have k10 := fun W A' c' h => FloydReach.yes_of n A' c' (tl l) hll' hgc' W h
    simp only [Int.toNat_natCast] at k7 k8 k9 k10
    rw [hcw] at k8
    rw [hcr] at k10
    have hln := tl_len l
    have K2 := Lib.hid k2
    have K3 := Lib.hid k3
    have K4 := Lib.hid k4
    have K7 := Lib.hid k7
    have K8 := Lib.hid k8
    have K9 := Lib.hid k9
    have K10 := Lib.hid k10
    generalize hwi : wi i n = i1 at *
    generalize hwj : wi j n = j1 at *
    have HWI := Lib.hid hwi
    have HWJ := Lib.hid hwj
    clear k2 k3 k4 k7 k8 k9 k10 hg hgc hgc' hcw hcr hwi hwj hi hj
    rcases hv with ⟨he1, he2, htr⟩ | ⟨he1, he2⟩
    · have k5 := fun W h => FloydAll.yes_of n A c l hll he1 W h
      have k6 := fun W A' c' h => FloydAll.yes_of n A' c' (tl l) hll' he2 W h
      simp only [Int.toNat_natCast] at k5 k6
      rw [htr] at k6
      have K5 := Lib.hid k5
      have K6 := Lib.hid k6
      clear k5 k6 he1 he2 htr
      generalize tl l = lt at *
      have HLN := Lib.hid hln
      clear hln
      go_enter Try.func12, Try.ntmps12
      go_wp2_with fail
      refine (two_any _).mono ?_
      rintro e w1 ⟨g, rfl, own1, hb1⟩
      have B1 : Below (w.heap.size + 1) (w.alloc (.cells #[.int .i64 n, .slice A l.length c] 24)) w1 := hb1.mono (by simp)
      have Z1 : w.heap.size + 1 ≤ w1.heap.size := by have := hb1.size; simp at this; omega
      clear hb1
      go_wp2_with fail
      refine (KEY0.out _ _ own1.sl.2).mono ?_
      rintro e w2 ⟨S2, rfl, sr2, hb2⟩
      have B2 := B1.trans (hb2.mono Z1)
      have Z2 : w.heap.size + 1 ≤ w2.heap.size := by have := hb2.size; omega
      have SR2 := Lib.hid sr2
      clear hb2 own1 B1 Z1 sr2
      go_wp2_with fail
      refine (KEY1.out _ _ _ _ _ ((SR2.out).keep ((((Below.refl _ _).alloc (Nat.le_refl _) _).alloc (by simp) _).alloc (by simp; omega) _) (Nat.le_refl _)) (sr_lit w2 4 62 #[.bool true, .bool true] #[.bool false, .bool true] [true, true] [false, true] 2 2 rfl rfl rfl rfl rfl rfl rfl)).mono ?_
      rintro e w3 ⟨rfl, n3, rfl⟩
      have B3 := below_drewN (((B2.alloc Z2 (.cells #[.bool true, .bool true] 4)).alloc (by simp; omega) (.cells #[.bool false, .bool true] 4)).alloc (by simp; omega) (.cells #[.slice (some ⟨w2.heap.size, 0, none⟩) 2 2, .slice (some ⟨w2.heap.size + 1, 0, none⟩) 2 2] 62)) n3
      have Z3 : w.heap.size + 1 ≤ (((w2.alloc (.cells #[.bool true, .bool true] 4)).alloc (.cells #[.bool false, .bool true] 4)).alloc (.cells #[.slice (some ⟨w2.heap.size, 0, none⟩) 2 2, .slice (some ⟨w2.heap.size + 1, 0, none⟩) 2 2] 62)).heap.size := by simp; omega
      generalize (((w2.alloc (.cells #[.bool true, .bool true] 4)).alloc (.cells #[.bool false, .bool true] 4)).alloc (.cells #[.slice (some ⟨w2.heap.size, 0, none⟩) 2 2, .slice (some ⟨w2.heap.size + 1, 0, none⟩) 2 2] 62)) = w3 at B3 Z3 ⊢
      clear SR2 B2 Z2
      have z3 : w.heap.size < w3.heap.size := by omega
      have H3 := hw0.trans (B3.mono (Nat.le_succ _))
      obtain ⟨cc3, _⟩ := keepAt B3 (Nat.lt_succ_self _)
      have q0 := cc3 0
      have q1 := cc3 1
      simp at q0 q1
      clear cc3
      go_wp2_with fail
      refine (K2.out _ ((hs.keep H3 (Nat.le_refl _)).more (by simp; omega))).mono ?_
      rintro e w4 ⟨A5, c5, rfl, own4, hb4⟩
      have B4 := B3.trans (hb4.mono Z3)
      have Z4 : w.heap.size + 1 ≤ w4.heap.size := by have := hb4.size; simp at this; omega
      have B5 : Below (w4.heap.size + 1) (w4.alloc (.cells #[.int .i64 n, .slice A5 lt.length c5] 24)) (w4.alloc (.cells #[.int .i64 n, .slice A5 lt.length c5] 24)) := Below.refl _ _
      have hkeep : ∀ wx, Below (w4.heap.size + 1) (w4.alloc (.cells #[.int .i64 n, .slice A5 lt.length c5] 24)) wx → wx.cell? ⟨w.heap.size, 0, none⟩ = some (.int .i64 n) ∧ wx.cell? ⟨w.heap.size, 1, none⟩ = some (.slice A l.length c) ∧ wx.cell? ⟨w4.heap.size, 0, none⟩ = some (.int .i64 n) ∧ wx.cell? ⟨w4.heap.size, 1, none⟩ = some (.slice A5 lt.length c5) ∧ w4.heap.size + 1 ≤ wx.heap.size ∧ Sl wx wx.heap.size 3 ce A l ∧ Sl wx wx.heap.size 3 ce A5 lt ∧ Below w.heap.size w wx := fun wx hx => by
        have hX := (B4.alloc Z4 (.cells #[.int .i64 n, .slice A5 lt.length c5] 24)).trans (hx.mono (by omega))
        have hX0 := hw0.trans (hX.mono (Nat.le_succ _))
        have hY := ((Below.refl w4.heap.size w4).alloc (Nat.le_refl _) (.cells #[.int .i64 n, .slice A5 lt.length c5] 24)).trans (hx.mono (by omega))
        have hzx : w4.heap.size + 1 ≤ wx.heap.size := by have := hx.size; simp at this; omega
        obtain ⟨c1, _⟩ := keepAt hX (Nat.lt_succ_self _)
        obtain ⟨c2, _⟩ := keepAt hx (Nat.lt_succ_self _)
        refine ⟨(c1 0).trans (by simp), (c1 1).trans (by simp), (c2 0).trans (by simp), (c2 1).trans (by simp), hzx, (hs.keep hX0 (Nat.le_refl _)).more (by omega), (own4.sl.2.keep hY (Nat.le_refl _)).more (by omega), hX0⟩
      have HK := Lib.hid hkeep
      clear hkeep own4 hb4 B3 H3 z3 Z3 q0 q1 B4 hs hw0
      obtain ⟨q0, q1, p0, p1, z5, sg, sh, H5⟩ := HK.out _ B5
      have zw5 : w.heap.size < w4.heap.size := by omega
      have H5' := Lib.hid H5
      clear H5 sg sh
      go_wp2
      go_quiet ((go_at_call 18; first | (with_reducible exact Calls.quiet_of_same (K3.out _)) | (with_reducible exact Calls.quiet_of_same (K4.out _))))
      have B5' := below_drewN B5 nq
      generalize (w4.alloc (.cells #[.int .i64 n, .slice A5 lt.length c5] 24)).drewN nq = w5 at *
      clear q0 q1 p0 p1 z5 B5
      obtain ⟨q0, q1, p0, p1, z5, sg, sh, H5⟩ := HK.out _ B5'
      have B5 := B5'
      clear B5' H5'
      go_wp2_with fail
      refine (K5.out _ sg).mono ?_
      rintro e w6 ⟨S6, F6, rfl, mt6, hb6⟩
      have B6 := B5.trans (hb6.mono z5)
      clear q0 q1 p0 p1 sg sh B5
      obtain ⟨q0, q1, p0, p1, z6, sg, sh, H6⟩ := HK.out _ B6
      have zw6 : w.heap.size < w6.heap.size := by omega
      have MT6 := Lib.hid mt6
      clear mt6 hb6
      go_wp2_with fail
      refine (K6.out _ _ _ sh).mono ?_
      rintro e w7 ⟨S7, F7, rfl, mt7, hb7⟩
      have B7 := B6.trans (hb7.mono z6)
      clear q0 q1 p0 p1 sg sh B6
      obtain ⟨q0, q1, p0, p1, z7, sg, sh, H7⟩ := HK.out _ B7
      have zw7 : w.heap.size < w7.heap.size := by omega
      have g1 := (MT6.out.keep hb7).head (v := i1) hi2
      have g2 := mt7.head (v := j1) hj2
      obtain ⟨c1, _⟩ := (MT6.out.keep hb7).cell (v := i1) (j := j1) hi2 hj2
      obtain ⟨c2, _⟩ := mt7.cell (v := j1) (j := i1) hj2 hi2
      change _ = some (FloydAll.q (all n l i1 j1)) at c2
      generalize all n l i1 j1 = x at *
      unfold FloydAll.q at c1 c2
      have MT7 := Lib.hid mt7
      clear mt7 hb7 MT6 H6 zw6 z6
      have H7' := Lib.hid H7
      clear H7
      go_wp2
      go_quiet (fail)
      have B8 := below_drewN B7 nq
      generalize w7.drewN nq = w8 at *
      clear g1 g2 c1 c2 q0 q1 p0 p1 sg sh B7 MT7 H7'
      obtain ⟨q0, q1, p0, p1, z8, sg, sh, H8⟩ := HK.out _ B8
      have zw8 : w.heap.size < w8.heap.size := by omega
      go_wp2_with fail
      refine (K7.out _ sg).mono ?_
      rintro e w9 ⟨S9, F9, rfl, mt9, hb9⟩
      have B9 := B8.trans (hb9.mono z8)
      clear q0 q1 p0 p1 sg sh B8
      obtain ⟨q0, q1, p0, p1, z9, sg, sh, H9⟩ := HK.out _ B9
      have zw9 : w.heap.size < w9.heap.size := by omega
      have MT9 := Lib.hid mt9
      clear mt9 hb9 H8 zw8 z8
      go_wp2_with fail
      refine (K8.out _ _ _ sh).mono ?_
      rintro e w10 ⟨S10, F10, rfl, mt10, hb10⟩
      have B10 := B9.trans (hb10.mono z9)
      clear q0 q1 p0 p1 sg sh B9
      obtain ⟨q0, q1, p0, p1, z10, sg, sh, H10⟩ := HK.out _ B10
      have zw10 : w.heap.size < w10.heap.size := by omega
      have MT10 := Lib.hid mt10
      have MT9' := Lib.hid (MT9.out.keep hb10)
      clear mt10 hb10 H9 zw9 z9 MT9
      go_wp2_with fail
      refine (K9.out _ sg).mono ?_
      rintro e w11 ⟨S11, F11, rfl, mt11, hb11⟩
      have B11 := B10.trans (hb11.mono z10)
      clear q0 q1 p0 p1 sg sh B10
      obtain ⟨q0, q1, p0, p1, z11, sg, sh, H11⟩ := HK.out _ B11
      have zw11 : w.heap.size < w11.heap.size := by omega
      have MT11 := Lib.hid mt11
      have MT9 := Lib.hid (MT9'.out.keep hb11)
      have MT10' := Lib.hid (MT10.out.keep hb11)
      clear mt11 hb11 H10 zw10 z10 MT9' MT10
      go_wp2_with fail
      refine (K10.out _ _ _ sh).mono ?_
      rintro e w12 ⟨S12, F12, rfl, mt12, hb12⟩
      have B12 := B11.trans (hb12.mono z11)
      clear q0 q1 p0 p1 sg sh B11
      obtain ⟨q0, q1, p0, p1, z12, sg, sh, H12⟩ := HK.out _ B12
      have zw12 : w.heap.size < w12.heap.size := by omega
      have MT12 := Lib.hid mt12
      have MT9' := Lib.hid (MT9.out.keep hb12)
      have MT10 := Lib.hid (MT10'.out.keep hb12)
      have MT11' := Lib.hid (MT11.out.keep hb12)
      clear mt12 hb12 H11 zw11 z11 MT9 MT10' MT11
      have g1 := MT9'.out.head (v := i1) hi2
      have g2 := MT10.out.head (v := j1) hj2
      have g3 := MT11'.out.head (v := i1) hi2
      have g4 := MT12.out.head (v := j1) hj2
      obtain ⟨c1, _⟩ := MT9'.out.cell (v := i1) (j := j1) hi2 hj2
      obtain ⟨c2, _⟩ := MT10.out.cell (v := j1) (j := i1) hj2 hi2
      obtain ⟨c3, _⟩ := MT11'.out.cell (v := i1) (j := j1) hi2 hj2
      obtain ⟨c4, _⟩ := MT12.out.cell (v := j1) (j := i1) hj2 hi2
      change _ = some (FloydWide.q (FloydWide.wide n l i1 j1)) at c2
      change _ = some (FloydReach.q (FloydReach.reach n l i1 j1)) at c4
      generalize FloydWide.wide n l i1 j1 = y at *
      generalize FloydReach.reach n l i1 j1 = z at *
      unfold FloydWide.q at c1 c2
      unfold FloydReach.q at c3 c4
      have hzz : (z == z) = true := by simp
      clear q0 q1 p0 p1 sg sh B12
      have H12' := Lib.hid H12
      clear H12
      go_wp2
      go_quiet (fail)
      go_wp2
      go_ret
      exact ⟨rfl, below_drewN H12'.out _⟩
    · have k5 := fun W h => all_some n A c l hll 6 he1 (by decide) W h
      have k6 := fun W A' c' h => all_some n A' c' (tl l) hll' 6 he2 (by decide) W h
      have K5 := Lib.hid k5
      have K6 := Lib.hid k6
      clear k5 k6 he1 he2
      generalize tl l = lt at *
      have HLN := Lib.hid hln
      clear hln
      go_enter Try.func12, Try.ntmps12
      go_wp2_with fail
      refine (two_any _).mono ?_
      rintro e w1 ⟨g, rfl, own1, hb1⟩
      have B1 : Below (w.heap.size + 1) (w.alloc (.cells #[.int .i64 n, .slice A l.length c] 24)) w1 := hb1.mono (by simp)
      have Z1 : w.heap.size + 1 ≤ w1.heap.size := by have := hb1.size; simp at this; omega
      clear hb1
      go_wp2_with fail
      refine (KEY0.out _ _ own1.sl.2).mono ?_
      rintro e w2 ⟨S2, rfl, sr2, hb2⟩
      have B2 := B1.trans (hb2.mono Z1)
      have Z2 : w.heap.size + 1 ≤ w2.heap.size := by have := hb2.size; omega
      have SR2 := Lib.hid sr2
      clear hb2 own1 B1 Z1 sr2
      go_wp2_with fail
      refine (KEY1.out _ _ _ _ _ ((SR2.out).keep ((((Below.refl _ _).alloc (Nat.le_refl _) _).alloc (by simp) _).alloc (by simp; omega) _) (Nat.le_refl _)) (sr_lit w2 4 62 #[.bool true, .bool true] #[.bool false, .bool true] [true, true] [false, true] 2 2 rfl rfl rfl rfl rfl rfl rfl)).mono ?_
      rintro e w3 ⟨rfl, n3, rfl⟩
      have B3 := below_drewN (((B2.alloc Z2 (.cells #[.bool true, .bool true] 4)).alloc (by simp; omega) (.cells #[.bool false, .bool true] 4)).alloc (by simp; omega) (.cells #[.slice (some ⟨w2.heap.size, 0, none⟩) 2 2, .slice (some ⟨w2.heap.size + 1, 0, none⟩) 2 2] 62)) n3
      have Z3 : w.heap.size + 1 ≤ (((w2.alloc (.cells #[.bool true, .bool true] 4)).alloc (.cells #[.bool false, .bool true] 4)).alloc (.cells #[.slice (some ⟨w2.heap.size, 0, none⟩) 2 2, .slice (some ⟨w2.heap.size + 1, 0, none⟩) 2 2] 62)).heap.size := by simp; omega
      generalize (((w2.alloc (.cells #[.bool true, .bool true] 4)).alloc (.cells #[.bool false, .bool true] 4)).alloc (.cells #[.slice (some ⟨w2.heap.size, 0, none⟩) 2 2, .slice (some ⟨w2.heap.size + 1, 0, none⟩) 2 2] 62)) = w3 at B3 Z3 ⊢
      clear SR2 B2 Z2
      have z3 : w.heap.size < w3.heap.size := by omega
      have H3 := hw0.trans (B3.mono (Nat.le_succ _))
      obtain ⟨cc3, _⟩ := keepAt B3 (Nat.lt_succ_self _)
      have q0 := cc3 0
      have q1 := cc3 1
      simp at q0 q1
      clear cc3
      go_wp2_with fail
      refine (K2.out _ ((hs.keep H3 (Nat.le_refl _)).more (by simp; omega))).mono ?_
      rintro e w4 ⟨A5, c5, rfl, own4, hb4⟩
      have B4 := B3.trans (hb4.mono Z3)
      have Z4 : w.heap.size + 1 ≤ w4.heap.size := by have := hb4.size; simp at this; omega
      have B5 : Below (w4.heap.size + 1) (w4.alloc (.cells #[.int .i64 n, .slice A5 lt.length c5] 24)) (w4.alloc (.cells #[.int .i64 n, .slice A5 lt.length c5] 24)) := Below.refl _ _
      have hkeep : ∀ wx, Below (w4.heap.size + 1) (w4.alloc (.cells #[.int .i64 n, .slice A5 lt.length c5] 24)) wx → wx.cell? ⟨w.heap.size, 0, none⟩ = some (.int .i64 n) ∧ wx.cell? ⟨w.heap.size, 1, none⟩ = some (.slice A l.length c) ∧ wx.cell? ⟨w4.heap.size, 0, none⟩ = some (.int .i64 n) ∧ wx.cell? ⟨w4.heap.size, 1, none⟩ = some (.slice A5 lt.length c5) ∧ w4.heap.size + 1 ≤ wx.heap.size ∧ Sl wx wx.heap.size 3 ce A l ∧ Sl wx wx.heap.size 3 ce A5 lt ∧ Below w.heap.size w wx := fun wx hx => by
        have hX := (B4.alloc Z4 (.cells #[.int .i64 n, .slice A5 lt.length c5] 24)).trans (hx.mono (by omega))
        have hX0 := hw0.trans (hX.mono (Nat.le_succ _))
        have hY := ((Below.refl w4.heap.size w4).alloc (Nat.le_refl _) (.cells #[.int .i64 n, .slice A5 lt.length c5] 24)).trans (hx.mono (by omega))
        have hzx : w4.heap.size + 1 ≤ wx.heap.size := by have := hx.size; simp at this; omega
        obtain ⟨c1, _⟩ := keepAt hX (Nat.lt_succ_self _)
        obtain ⟨c2, _⟩ := keepAt hx (Nat.lt_succ_self _)
        refine ⟨(c1 0).trans (by simp), (c1 1).trans (by simp), (c2 0).trans (by simp), (c2 1).trans (by simp), hzx, (hs.keep hX0 (Nat.le_refl _)).more (by omega), (own4.sl.2.keep hY (Nat.le_refl _)).more (by omega), hX0⟩
      have HK := Lib.hid hkeep
      clear hkeep own4 hb4 B3 H3 z3 Z3 q0 q1 B4 hs hw0
      obtain ⟨q0, q1, p0, p1, z5, sg, sh, H5⟩ := HK.out _ B5
      have zw5 : w.heap.size < w4.heap.size := by omega
      have H5' := Lib.hid H5
      clear H5 sg sh
      go_wp2
      go_quiet ((go_at_call 18; first | (with_reducible exact Calls.quiet_of_same (K3.out _)) | (with_reducible exact Calls.quiet_of_same (K4.out _))))
      have B5' := below_drewN B5 nq
      generalize (w4.alloc (.cells #[.int .i64 n, .slice A5 lt.length c5] 24)).drewN nq = w5 at *
      clear q0 q1 p0 p1 z5 B5
      obtain ⟨q0, q1, p0, p1, z5, sg, sh, H5⟩ := HK.out _ B5'
      have B5 := B5'
      clear B5' H5'
      go_wp2_with fail
      refine (K5.out _ sg).mono ?_
      rintro e w6 ⟨rfl, hb6⟩
      have B6 := B5.trans (hb6.mono z5)
      clear q0 q1 p0 p1 sg sh B5
      obtain ⟨q0, q1, p0, p1, z6, sg, sh, H6⟩ := HK.out _ B6
      have zw6 : w.heap.size < w6.heap.size := by omega
      clear hb6
      go_wp2_with fail
      refine (K6.out _ _ _ sh).mono ?_
      rintro e w7 ⟨rfl, hb7⟩
      have B7 := B6.trans (hb7.mono z6)
      clear q0 q1 p0 p1 sg sh B6
      obtain ⟨q0, q1, p0, p1, z7, sg, sh, H7⟩ := HK.out _ B7
      have zw7 : w.heap.size < w7.heap.size := by omega
      clear hb7 H6 zw6 z6
      have H7' := Lib.hid H7
      clear H7
      go_wp2
      go_quiet (fail)
      have B8 := below_drewN B7 nq
      generalize w7.drewN nq = w8 at *
      clear q0 q1 p0 p1 sg sh B7 H7'
      obtain ⟨q0, q1, p0, p1, z8, sg, sh, H8⟩ := HK.out _ B8
      have zw8 : w.heap.size < w8.heap.size := by omega
      go_wp2_with fail
      refine (K7.out _ sg).mono ?_
      rintro e w9 ⟨S9, F9, rfl, mt9, hb9⟩
      have B9 := B8.trans (hb9.mono z8)
      clear q0 q1 p0 p1 sg sh B8
      obtain ⟨q0, q1, p0, p1, z9, sg, sh, H9⟩ := HK.out _ B9
      have zw9 : w.heap.size < w9.heap.size := by omega
      have MT9 := Lib.hid mt9
      clear mt9 hb9 H8 zw8 z8
      go_wp2_with fail
      refine (K8.out _ _ _ sh).mono ?_
      rintro e w10 ⟨S10, F10, rfl, mt10, hb10⟩
      have B10 := B9.trans (hb10.mono z9)
      clear q0 q1 p0 p1 sg sh B9
      obtain ⟨q0, q1, p0, p1, z10, sg, sh, H10⟩ := HK.out _ B10
      have zw10 : w.heap.size < w10.heap.size := by omega
      have MT10 := Lib.hid mt10
      have MT9' := Lib.hid (MT9.out.keep hb10)
      clear mt10 hb10 H9 zw9 z9 MT9
      go_wp2_with fail
      refine (K9.out _ sg).mono ?_
      rintro e w11 ⟨S11, F11, rfl, mt11, hb11⟩
      have B11 := B10.trans (hb11.mono z10)
      clear q0 q1 p0 p1 sg sh B10
      obtain ⟨q0, q1, p0, p1, z11, sg, sh, H11⟩ := HK.out _ B11
      have zw11 : w.heap.size < w11.heap.size := by omega
      have MT11 := Lib.hid mt11
      have MT9 := Lib.hid (MT9'.out.keep hb11)
      have MT10' := Lib.hid (MT10.out.keep hb11)
      clear mt11 hb11 H10 zw10 z10 MT9' MT10
      go_wp2_with fail
      refine (K10.out _ _ _ sh).mono ?_
      rintro e w12 ⟨S12, F12, rfl, mt12, hb12⟩
      have B12 := B11.trans (hb12.mono z11)
      clear q0 q1 p0 p1 sg sh B11
      obtain ⟨q0, q1, p0, p1, z12, sg, sh, H12⟩ := HK.out _ B12
      have zw12 : w.heap.size < w12.heap.size := by omega
      have MT12 := Lib.hid mt12
      have MT9' := Lib.hid (MT9.out.keep hb12)
      have MT10 := Lib.hid (MT10'.out.keep hb12)
      have MT11' := Lib.hid (MT11.out.keep hb12)
      clear mt12 hb12 H11 zw11 z11 MT9 MT10' MT11
      have g1 := MT9'.out.head (v := i1) hi2
      have g2 := MT10.out.head (v := j1) hj2
      have g3 := MT11'.out.head (v := i1) hi2
      have g4 := MT12.out.head (v := j1) hj2
      obtain ⟨c1, _⟩ := MT9'.out.cell (v := i1) (j := j1) hi2 hj2
      obtain ⟨c2, _⟩ := MT10.out.cell (v := j1) (j := i1) hj2 hi2
      obtain ⟨c3, _⟩ := MT11'.out.cell (v := i1) (j := j1) hi2 hj2
      obtain ⟨c4, _⟩ := MT12.out.cell (v := j1) (j := i1) hj2 hi2
      change _ = some (FloydWide.q (FloydWide.wide n l i1 j1)) at c2
      change _ = some (FloydReach.q (FloydReach.reach n l i1 j1)) at c4
      generalize FloydWide.wide n l i1 j1 = y at *
      generalize FloydReach.reach n l i1 j1 = z at *
      unfold FloydWide.q at c1 c2
      unfold FloydReach.q at c3 c4
      have hzz : (z == z) = true := by simp
      clear q0 q1 p0 p1 sg sh B12
      have H12' := Lib.hid H12
      clear H12
      go_wp2
      go_quiet (fail)
      go_wp2
      go_ret
      exact ⟨rfl, below_drewN H12'.out _⟩
  · have k2 := fun W h => turn_no N A c l W h hll hg
    have hne : (chk N l != 0) = true := by rw [bne_iff_ne]; exact fun h => hg (chk_zero.1 h)
    generalize chk N l = er at *
    have K2 := Lib.hid k2
    clear k2 hg
    go_enter Try.func12, Try.ntmps12
    go_wp2_with fail
    refine (two_any _).mono ?_
    rintro e w1 ⟨g, rfl, own1, hb1⟩
    have B1 : Below (w.heap.size + 1) (w.alloc (.cells #[.int .i64 N, .slice A l.length c] 24)) w1 := hb1.mono (by simp)
    have Z1 : w.heap.size + 1 ≤ w1.heap.size := by have := hb1.size; simp at this; omega
    clear hb1
    go_wp2_with fail
    refine (KEY0.out _ _ own1.sl.2).mono ?_
    rintro e w2 ⟨S2, rfl, sr2, hb2⟩
    have B2 := B1.trans (hb2.mono Z1)
    have Z2 : w.heap.size + 1 ≤ w2.heap.size := by have := hb2.size; omega
    have SR2 := Lib.hid sr2
    clear hb2 own1 B1 Z1 sr2
    go_wp2_with fail
    refine (KEY1.out _ _ _ _ _ ((SR2.out).keep ((((Below.refl _ _).alloc (Nat.le_refl _) _).alloc (by simp) _).alloc (by simp; omega) _) (Nat.le_refl _)) (sr_lit w2 4 62 #[.bool true, .bool true] #[.bool false, .bool true] [true, true] [false, true] 2 2 rfl rfl rfl rfl rfl rfl rfl)).mono ?_
    rintro e w3 ⟨rfl, n3, rfl⟩
    have B3 := below_drewN (((B2.alloc Z2 (.cells #[.bool true, .bool true] 4)).alloc (by simp; omega) (.cells #[.bool false, .bool true] 4)).alloc (by simp; omega) (.cells #[.slice (some ⟨w2.heap.size, 0, none⟩) 2 2, .slice (some ⟨w2.heap.size + 1, 0, none⟩) 2 2] 62)) n3
    have Z3 : w.heap.size + 1 ≤ (((w2.alloc (.cells #[.bool true, .bool true] 4)).alloc (.cells #[.bool false, .bool true] 4)).alloc (.cells #[.slice (some ⟨w2.heap.size, 0, none⟩) 2 2, .slice (some ⟨w2.heap.size + 1, 0, none⟩) 2 2] 62)).heap.size := by simp; omega
    generalize (((w2.alloc (.cells #[.bool true, .bool true] 4)).alloc (.cells #[.bool false, .bool true] 4)).alloc (.cells #[.slice (some ⟨w2.heap.size, 0, none⟩) 2 2, .slice (some ⟨w2.heap.size + 1, 0, none⟩) 2 2] 62)) = w3 at B3 Z3 ⊢
    clear SR2 B2 Z2
    have z3 : w.heap.size < w3.heap.size := by omega
    have H3 := hw0.trans (B3.mono (Nat.le_succ _))
    obtain ⟨cc3, _⟩ := keepAt B3 (Nat.lt_succ_self _)
    have q0 := cc3 0
    have q1 := cc3 1
    simp at q0 q1
    clear cc3
    go_wp2_with fail
    refine (K2.out _ ((hs.keep H3 (Nat.le_refl _)).more (by simp; omega))).mono ?_
    rintro e w4 ⟨rfl, hb4⟩
    have H4 := H3.trans (hb4.mono (by simp; omega))
    have z4 := H4.size
    clear hb4 B3 H3 z3 Z3 q0 q1
    go_wp2
    go_ret
    exact ⟨rfl, H4.alloc z4 _⟩

theorem own : ownKnob Try.prog.godebug = none := by kernel_rfl
theorem laidOut : laidOutB Try.prog = true := by kernel_rfl

set_option maxRecDepth 100000 in
theorem lifted (os : Os) (started : os.Started) (H : Type) (enc : TypeId × Value → H) :
    ReturnsInHanded {} Try.checked os 12 .any (Rows.floydTurnsSpec.pre6 enc Try.prog Try.f12 Rows.floydTurnsRow.domain false) (Rows.floydTurnsSpec.post enc Try.prog Try.f12 false true false false) := by
  refine returnsInHanded_of_change (C := Try.checked) own started (by kernel_rfl) Try.func12
    (ChangeSpec.witness6 (enc := enc) (C := Try.checked) false ⟨#[], #[.agg #[.int .i64 0, .slice none 0 0], .int .i64 0, .int .i64 0], []⟩ 8 (by kernel_rfl) (by kernel_rfl) (by kernel_rfl) (by kernel_rfl)) ?_
  intro W base args ds gs before hval0 hW hcnd _
  have hval : ∀ (j : Nat) t v, Try.f12.params[j]? = some t → args[j]? = some v → Value.okWide Try.prog W .any base t v := hval0
  have hW' := hW
  obtain ⟨p, q, hA0, hV, rfl, hfz, hnd⟩ := hW
  have hA : DataW.TrodAll enc Try.prog W 0 (fun _ => true) true Try.f12.params.toList args.toList ds p := hA0
  rw [Try.params12] at hA hval
  obtain ⟨v0, vs0, d0, ds0, p0, q0, hargs, rfl, rfl, h0, r0⟩ := trodAll_cons hA
  obtain ⟨v1, vs1, d1, ds1, p1, q1, rfl, rfl, rfl, h1, r1⟩ := trodAll_cons r0
  obtain ⟨v2, vs2, d2, ds2, p2, q2, rfl, rfl, rfl, h2, r2⟩ := trodAll_cons r1
  obtain ⟨rfl, rfl, rfl⟩ := trodAll_nil r2
  obtain rfl : args = #[v0, v1, v2] := by cases args; simp_all
  obtain ⟨rfl, rfl⟩ := trodVars_none hV
  obtain ⟨N0, A0, c0, l0, dd0, rfl, hN0, hG0, hb0, rfl, hd0⟩ := open_net Try.underlying24 (by kernel_rfl) (by kernel_rfl) Try.underlying3 Try.underlying22 Try.underlying35 (by kernel_rfl) (by kernel_rfl) Try.underlying3 Try.underlying3 Try.underlying3 (hval 0 24 v0 rfl rfl) h0
  obtain ⟨a1, rfl, rfl, rfl, wa1⟩ := open_int Try.underlying3 (hval 1 3 v1 rfl rfl) h1
  obtain ⟨a2, rfl, rfl, rfl, wa2⟩ := open_int Try.underlying3 (hval 2 3 v2 rfl rfl) h2
  refine (walk W N0 A0 c0 l0 hG0 a1 (wf_bd wa1) a2 (wf_bd wa2)).mono fun e W' ⟨he, hB⟩ => ?_
  subst he
  exact ⟨_, rfl, post_of_law laidOut rfl Try.underlying4 rfl (by intro t ht; rw [Try.params12] at ht; simp at ht; rcases ht with rfl | rfl | rfl <;> exact ⟨by kernel_rfl, of_decide_eq_true (by kernel_rfl)⟩) hW' rfl hB⟩

theorem holds : Rows.FloydTurnsSaid :=
  OpenClaim.holds_of_wide 12 Try.f12 rfl rfl rfl rfl rfl rfl rfl ⟨rfl, rfl, rfl, rfl, rfl⟩ rfl rfl rfl rfl rfl (by kernel_rfl) Try.func12 (by kernel_rfl)
    (of_decide_eq_true (by kernel_rfl)) (by unfold Func.isWrapper; first | (rw [if_pos (by decide +kernel)]; kernel_rfl) | (rw [if_neg (by decide +kernel)]; exact ⟨rfl, rfl⟩))
    (fun os started H enc _ => lifted os started H enc)
#print axioms holds
end Go.Proofs.Ytdgglgiafmndnaa.FloydTurnsLaw
