/- For every net and three numbers: FloydWidth answers true (over a third place it is never wider; there is a width just where a walk leads, and it is some edge's cost), and the arguments read as before. No condition. -/
import Derived.Test.YtdgglgiafmndnaaRows
import Derived.Test.YtdgglgiafmndnaaOpen
import Derived.Test.YtdgglgiafmndnaaFloydWideFn
import Derived.Test.YtdgglgiafmndnaaFloydReachFn
import Derived.Test.YtdgglgiafmndnaaFloydWd
import Derived.Test.YtdgglgiafmndnaaWidthFn
import Derived.Test.YtdgglgiafmndnaaWithin
import Derived.Test.YtdgglgiafmndnaaRefs
import Derived.StillTailTactics
namespace Go.Proofs.Ytdgglgiafmndnaa.FloydWidthLaw
open Go.ChangeShapes Go.WideShapes Go.ChangeAt Go.RowKit Go.Proofs.Ytdgglgiafmndnaa NetLaw BellLaw FloydLaw Go.Proofs.Ytdgglgiafmndnaa.Net Go.Proofs.Ytdgglgiafmndnaa.Mat Go.Proofs.Ytdgglgiafmndnaa.Within Go.Proofs.Ytdgglgiafmndnaa.WidthFn Go.Proofs.Ytdgglgiafmndnaa.Refs Go.Proofs.Ytdgglgiafmndnaa.Std
open Go.Proofs.Ytdgglgiafmndnaa.RowsInt (sr_lit)
set_option linter.unusedSimpArgs false
set_option linter.unusedVariables false

theorem reach_val {n : Nat} {l : List E} (hg : NetLaw.Good n l) (i j : Nat) : FloydReach.reach n l i j = decide (-far < FloydWide.wide n l i j) := (wide_reach hg FloydReach.yes (fun _ => rfl) i j).symm

set_option maxRecDepth 100000 in
set_option maxHeartbeats 4000000 in
theorem walk (w : World) (N : Int) (A : Option Addr) (c : Nat) (l : List E) (hA : Arg w 3 ce A c l) (i : Int) (hi : -9223372036854775808 ≤ i ∧ i ≤ 9223372036854775807) (j : Int) (hj : -9223372036854775808 ≤ j ∧ j ≤ 9223372036854775807) (k : Int) (hk : -9223372036854775808 ≤ k ∧ k ≤ 9223372036854775807) :
    Calls Try.prog 7 #[.agg #[.int .i64 N, .slice A l.length c], .int .i64 i, .int .i64 j, .int .i64 k] w fun e w' => e = .returned (.bool true) ∧ Below w.heap.size w w' := by
  have hs := hA.sl
  have hll : l.length ≤ 9223372036854775807 := Nat.le_trans hA.cap hA.max
  clear hA
  have hw0 : Below w.heap.size w (w.alloc (.cells #[.int .i64 N, .slice A l.length c] 24)) := (Below.refl _ _).alloc (Nat.le_refl _) _
  have key0 := fun W g h => FloydWide.two_of W g h
  have key1 := fun W A A' B B' h h' => RowsInt.same_rows A A' 2 2 2 2 [[far, 5], [-far, far]] [[far, 5], [-far, far]] B B' W h h' rfl rfl (by decide) (by decide) true (by decide)
  have KEY0 := Lib.hid key0
  have KEY1 := Lib.hid key1
  clear key0 key1
  by_cases hg : NetLaw.Good N l
  · have hN1 := hg.lo
    have hN2 := hg.hi
    have h6 := hg.len
    have hgc := chk_zero.2 hg
    obtain ⟨n, rfl⟩ := Int.eq_ofNat_of_zero_le (show 0 ≤ N by omega)
    have k2 := fun W h => FloydWide.yes_of n A c l hll hgc W h
    have k6 := fun W h => FloydReach.yes_of n A c l hll hgc W h
    simp only [Int.toNat_natCast] at k2 k6
    obtain ⟨_, hi2⟩ := wi_spec i n (by omega) (by omega)
    obtain ⟨_, hj2⟩ := wi_spec j n (by omega) (by omega)
    obtain ⟨_, hk2⟩ := wi_spec k n (by omega) (by omega)
    have k3 := fun (W : World) => within_any i n (by omega) (by omega) W
    have k4 := fun (W : World) => within_any j n (by omega) (by omega) W
    have k5 := fun (W : World) => within_any k n (by omega) (by omega) W
    have hok := wide_ok hg
    have hco : ∀ y : Int, (∃ e ∈ l, e.2.2 = y) → -10000 ≤ y := fun y ⟨e, he, h⟩ => by have := hg.cost e he; omega
    have hrv := fun a b => reach_val hg a b
    have K2 := Lib.hid k2
    have K3 := Lib.hid k3
    have K4 := Lib.hid k4
    have K5 := Lib.hid k5
    have K6 := Lib.hid k6
    have HOK := Lib.hid hok
    have HRV := Lib.hid hrv
    have HCO := Lib.hid hco
    generalize hwi : wi i n = i1 at *
    generalize hwj : wi j n = j1 at *
    generalize hwk : wi k n = k1 at *
    have HWI := Lib.hid hwi
    have HWJ := Lib.hid hwj
    have HWK := Lib.hid hwk
    clear k2 k3 k4 k5 k6 hok hrv hco hg hgc hwi hwj hwk hi hj hk
    go_enter Try.func7, Try.ntmps7
    go_wp2_with fail
    refine (two_any _).mono ?_
    rintro e w1 ⟨g, rfl, own1, hb1⟩
    have B1 : Below (w.heap.size + 1) (w.alloc (.cells #[.int .i64 n, .slice A l.length c] 24)) w1 := hb1.mono (by simp)
    have Z1 : w.heap.size + 1 ≤ w1.heap.size := by have := hb1.size; simp at this; omega
    clear hb1
    go_wp2_with fail
    refine (KEY0.out _ _ own1.sl.2).mono ?_
    rintro e w2 ⟨S2, rfl, sr2, hb2⟩
    have B2 := B1.trans (hb2.mono Z1)
    have Z2 : w.heap.size + 1 ≤ w2.heap.size := by have := hb2.size; omega
    have SR2 := Lib.hid sr2
    clear hb2 own1 B1 Z1 sr2
    go_wp2_with fail
    refine (KEY1.out _ _ _ _ _ ((SR2.out).keep ((((Below.refl _ _).alloc (Nat.le_refl _) _).alloc (by simp) _).alloc (by simp; omega) _) (Nat.le_refl _)) (sr_lit w2 3 31 #[.int .i64 1099511627776, .int .i64 5] #[.int .i64 (-1099511627776), .int .i64 1099511627776] [far, 5] [-far, far] 2 2 rfl rfl rfl rfl rfl rfl rfl)).mono ?_
    rintro e w3 ⟨rfl, n3, rfl⟩
    have B3 := below_drewN (((B2.alloc Z2 (.cells #[.int .i64 1099511627776, .int .i64 5] 3)).alloc (by simp; omega) (.cells #[.int .i64 (-1099511627776), .int .i64 1099511627776] 3)).alloc (by simp; omega) (.cells #[.slice (some ⟨w2.heap.size, 0, none⟩) 2 2, .slice (some ⟨w2.heap.size + 1, 0, none⟩) 2 2] 31)) n3
    have Z3 : w.heap.size + 1 ≤ (((w2.alloc (.cells #[.int .i64 1099511627776, .int .i64 5] 3)).alloc (.cells #[.int .i64 (-1099511627776), .int .i64 1099511627776] 3)).alloc (.cells #[.slice (some ⟨w2.heap.size, 0, none⟩) 2 2, .slice (some ⟨w2.heap.size + 1, 0, none⟩) 2 2] 31)).heap.size := by simp; omega
    generalize (((w2.alloc (.cells #[.int .i64 1099511627776, .int .i64 5] 3)).alloc (.cells #[.int .i64 (-1099511627776), .int .i64 1099511627776] 3)).alloc (.cells #[.slice (some ⟨w2.heap.size, 0, none⟩) 2 2, .slice (some ⟨w2.heap.size + 1, 0, none⟩) 2 2] 31)) = w3 at B3 Z3 ⊢
    clear SR2 B2 Z2
    have z3 : w.heap.size < w3.heap.size := by omega
    have H3 := hw0.trans (B3.mono (Nat.le_succ _))
    obtain ⟨cc3, _⟩ := keepAt B3 (Nat.lt_succ_self _)
    have q0 := cc3 0
    have q1 := cc3 1
    simp at q0 q1
    clear cc3
    go_wp2_with fail
    refine (K2.out _ ((hs.keep H3 (Nat.le_refl _)).more (by simp; omega))).mono ?_
    rintro e w4 ⟨S4, F4, rfl, mt4, hb4⟩
    have B4 := B3.trans (hb4.mono Z3)
    have H4 := hw0.trans (B4.mono (Nat.le_succ _))
    have z4 : w.heap.size < w4.heap.size := by have := hb4.size; simp at this; omega
    have MT4 := Lib.hid mt4
    clear hb4 mt4 q0 q1
    obtain ⟨cc4, _⟩ := keepAt B4 (Nat.lt_succ_self _)
    have q0 := cc4 0
    have q1 := cc4 1
    simp at q0 q1
    clear cc4 B3 H3 z3 Z3
    go_wp2_with fail
    refine (K6.out _ ((hs.keep H4 (Nat.le_refl _)).more (by omega))).mono ?_
    rintro e w5 ⟨S5, F5, rfl, mt5, hb5⟩
    have B5 := B4.trans (hb5.mono (by omega))
    have H5 := hw0.trans (B5.mono (Nat.le_succ _))
    have z5 : w.heap.size < w5.heap.size := by have := hb5.size; omega
    have MT5 := Lib.hid mt5
    have MT4' := Lib.hid (MT4.out.keep hb5)
    clear hb5 mt5 q0 q1 MT4
    obtain ⟨cc5, _⟩ := keepAt B5 (Nat.lt_succ_self _)
    have q0 := cc5 0
    have q1 := cc5 1
    simp at q0 q1
    clear cc5 B4 H4 z4 B5
    go_wp2
    go_quiet ((go_at_call 18; first | (with_reducible exact Calls.quiet_of_same (K3.out _)) | (with_reducible exact Calls.quiet_of_same (K4.out _)) | (with_reducible exact Calls.quiet_of_same (K5.out _))))
    have H6 := below_drewN H5 nq
    have M4 := Lib.hid (MT4'.out.drewN nq)
    have M5 := Lib.hid (MT5.out.drewN nq)
    have z6 : w.heap.size < (w5.drewN nq).heap.size := z5
    change (w5.drewN nq).cell? _ = _ at q0 q1
    have sl6 := (hs.keep H6 (Nat.le_refl _)).more (Nat.le_of_lt z6)
    clear MT4' MT5 z5 hs
    generalize w5.drewN nq = w6 at *
    have hh1 := M4.out.head (v := i1) hi2
    have hh2 := M4.out.head (v := k1) hk2
    have hh3 := M5.out.head (v := i1) hi2
    obtain ⟨c1, _⟩ := M4.out.cell (v := i1) (j := j1) hi2 hj2
    obtain ⟨c2, _⟩ := M4.out.cell (v := i1) (j := k1) hi2 hk2
    obtain ⟨c3, _⟩ := M4.out.cell (v := k1) (j := j1) hk2 hj2
    obtain ⟨c4, _⟩ := M5.out.cell (v := i1) (j := j1) hi2 hj2
    have s1 := M4.out.lt
    have s2 := M4.out.rlt (v := i1) hi2
    have s3 := M4.out.rlt (v := k1) hk2
    have s4 := M5.out.lt
    have s5 := M5.out.rlt (v := i1) hi2
    have htri := HOK.out.tri i1 j1 k1 hi2 hj2 hk2
    have hval := HOK.out.val i1 j1
    have hdg := HOK.out.diag i1
    rw [HRV.out] at c4
    change w6.cell? _ = some (FloydWide.q (FloydWide.wide n l i1 j1)) at c1
    change w6.cell? _ = some (FloydWide.q (FloydWide.wide n l i1 k1)) at c2
    change w6.cell? _ = some (FloydWide.q (FloydWide.wide n l k1 j1)) at c3
    change min (FloydWide.wide n l i1 k1) (FloydWide.wide n l k1 j1) ≤ FloydWide.wide n l i1 j1 at htri
    change i1 ≠ j1 → FloydWide.wide n l i1 j1 = -far ∨ ∃ e ∈ l, e.2.2 = FloydWide.wide n l i1 j1 at hval
    change FloydWide.wide n l i1 i1 = far at hdg
    have hdg2 : i1 = j1 → FloydWide.wide n l i1 j1 = far := fun e => by rw [← e]; exact hdg
    clear hdg
    generalize FloydWide.wide n l i1 j1 = x at *
    generalize FloydWide.wide n l i1 k1 = y at *
    generalize FloydWide.wide n l k1 j1 = z at *
    unfold FloydWide.q at c1 c2 c3
    unfold FloydReach.q far at c4
    unfold far at hval hdg2
    have kc : (∃ e ∈ l, e.2.2 = x) → ∀ W, Below (w6.heap.size + 1) (w6.alloc (.cells #[.int .i64 x] 3)) W → Calls Try.prog 36 #[.slice A l.length c, fnw w6.heap.size] W fun e w' => e = .returned (.bool true) ∧ Below W.heap.size W w' := fun hex W hW => by
      have hz : w6.heap.size + 1 ≤ W.heap.size := by have := hW.size; simp at this; omega
      exact containsW_fn w6.heap.size x A c l W (((keepAt hW (Nat.lt_succ_self _)).1 0).trans (by simp)) (by omega) ((sl6.keep (((Below.refl _ _).alloc (Nat.le_refl _) _).trans (hW.mono (Nat.le_succ _))) (Nat.le_refl _)).more (by omega)) h6 hex
    unfold fnw at kc
    have KC := Lib.hid kc
    have H6' := Lib.hid H6
    have H7' := Lib.hid (H6.alloc (Nat.le_of_lt z6) (.cells #[.int .i64 x] 3))
    clear kc sl6 H6
    by_cases hij : i1 = j1
    · have hxf := hdg2 hij
      subst hij
      subst hxf
      have hd : decide ((-1099511627776 : Int) < 1099511627776) = true := by decide
      rw [hd] at c4
      clear hval hdg2 hd
      by_cases hyz : y ≤ z
      · have h1 : y ≤ 1099511627776 := by omega
        clear htri
        go_wp2
        go_quiet (fail)
        go_wp2
        go_ret
        exact ⟨rfl, below_drewN H7'.out _⟩
      · have h1 : z ≤ 1099511627776 := by omega
        have h2 : z < y := by omega
        clear htri
        go_wp2
        go_quiet (fail)
        go_wp2
        go_ret
        exact ⟨rfl, below_drewN H7'.out _⟩
    · have hbij : ((i1 : Int) == (j1 : Int)) = false := by simp; omega
      have hv2 := hval hij
      clear hval hdg2
      by_cases hx : x = -1099511627776
      · subst hx
        have hd : decide ((-1099511627776 : Int) < -1099511627776) = false := by decide
        rw [hd] at c4
        clear hv2 hd
        by_cases hyz : y ≤ z
        · have h1 : y ≤ -1099511627776 := by omega
          clear htri
          go_wp2
          go_quiet (fail)
          go_wp2
          go_ret
          exact ⟨rfl, below_drewN H7'.out _⟩
        · have h1 : z ≤ -1099511627776 := by omega
          have h2 : z < y := by omega
          clear htri
          go_wp2
          go_quiet (fail)
          go_wp2
          go_ret
          exact ⟨rfl, below_drewN H7'.out _⟩
      · have hex := hv2.resolve_left hx
        have hxl := HCO.out x hex
        have kc2 := KC.out hex
        have KC2 := Lib.hid kc2
        have h0 : (-1099511627776 : Int) < x := by omega
        have hd : decide ((-1099511627776 : Int) < x) = true := decide_eq_true h0
        have hd2 : (x == -1099511627776) = false := by simp; omega
        rw [hd] at c4
        clear hv2 hex kc2 KC hx
        by_cases hyz : y ≤ z
        · have h1 : y ≤ x := by omega
          have h5 : (if z < y then z else y) = y := if_neg (by omega)
          clear htri
          go_wp2
          have e1 : (w6.alloc (.cells #[.int .i64 x] 3)).cell? ⟨w6.heap.size, 0, none⟩ = some (.int .i64 x) := by rw [cell_new]; rfl
          have pa : ∀ b o u, b < w6.heap.size → w6.cell? ⟨b, o, none⟩ = some u → (w6.alloc (.cells #[.int .i64 x] 3)).cell? ⟨b, o, none⟩ = some u := fun b o u hb hu => (World.cell?_alloc_past _ _ _ hb).trans hu
          have e2 := pa _ _ _ s2 c1
          have e3 := pa _ _ _ s2 c2
          have e4 := pa _ _ _ s3 c3
          have e5 := pa _ _ _ s5 c4
          have e6 := pa _ _ _ s1 hh1
          have e7 := pa _ _ _ s1 hh2
          have e8 := pa _ _ _ s4 hh3
          have e9 := pa _ _ _ z6 q1
          have hz7 : w6.heap.size + 1 = (w6.alloc (.cells #[.int .i64 x] 3)).heap.size := by simp
          have HZ7 := Lib.hid hz7
          clear pa hz7 c1 c2 c3 c4 hh1 hh2 hh3 q0 q1
          generalize w6.alloc (.cells #[.int .i64 x] 3) = w7 at *
          go_still_tail 41, (by kernel_rfl)
          change wpList _ _ _ _ _ w7.drew
          go_wp2_with fail
          refine (KC2.out _ (Below.refl _ _).drew).mono ?_
          rintro e w8 ⟨rfl, hb7⟩
          have H8 := H7'.out.drew.trans (hb7.mono (by have := HZ7.out; show _ ≤ w7.heap.size; omega))
          clear hb7
          go_wp2
          go_ret
          exact ⟨rfl, H8⟩
        · have h1 : z ≤ x := by omega
          have h2 : z < y := by omega
          clear htri
          go_wp2
          have e1 : (w6.alloc (.cells #[.int .i64 x] 3)).cell? ⟨w6.heap.size, 0, none⟩ = some (.int .i64 x) := by rw [cell_new]; rfl
          have pa : ∀ b o u, b < w6.heap.size → w6.cell? ⟨b, o, none⟩ = some u → (w6.alloc (.cells #[.int .i64 x] 3)).cell? ⟨b, o, none⟩ = some u := fun b o u hb hu => (World.cell?_alloc_past _ _ _ hb).trans hu
          have e2 := pa _ _ _ s2 c1
          have e3 := pa _ _ _ s2 c2
          have e4 := pa _ _ _ s3 c3
          have e5 := pa _ _ _ s5 c4
          have e6 := pa _ _ _ s1 hh1
          have e7 := pa _ _ _ s1 hh2
          have e8 := pa _ _ _ s4 hh3
          have e9 := pa _ _ _ z6 q1
          have hz7 : w6.heap.size + 1 = (w6.alloc (.cells #[.int .i64 x] 3)).heap.size := by simp
          have HZ7 := Lib.hid hz7
          clear pa hz7 c1 c2 c3 c4 hh1 hh2 hh3 q0 q1
          generalize w6.alloc (.cells #[.int .i64 x] 3) = w7 at *
          go_still_tail 41, (by kernel_rfl)
          change wpList _ _ _ _ _ w7.drew
          go_wp2_with fail
          refine (KC2.out _ (Below.refl _ _).drew).mono ?_
          rintro e w8 ⟨rfl, hb7⟩
          have H8 := H7'.out.drew.trans (hb7.mono (by have := HZ7.out; show _ ≤ w7.heap.size; omega))
          clear hb7
          go_wp2
          go_ret
          exact ⟨rfl, H8⟩
  · have k2 := fun W h => FloydWide.no_of N A c l hll (fun h => hg (chk_zero.1 h)) W h
    have k6 := fun W h => FloydReach.no_of N A c l hll (fun h => hg (chk_zero.1 h)) W h
    have hne : (chk N l != 0) = true := by rw [bne_iff_ne]; exact fun h => hg (chk_zero.1 h)
    generalize chk N l = er at *
    have K2 := Lib.hid k2
    have K6 := Lib.hid k6
    clear k2 k6 hg
    go_enter Try.func7, Try.ntmps7
    go_wp2_with fail
    refine (two_any _).mono ?_
    rintro e w1 ⟨g, rfl, own1, hb1⟩
    have B1 : Below (w.heap.size + 1) (w.alloc (.cells #[.int .i64 N, .slice A l.length c] 24)) w1 := hb1.mono (by simp)
    have Z1 : w.heap.size + 1 ≤ w1.heap.size := by have := hb1.size; simp at this; omega
    clear hb1
    go_wp2_with fail
    refine (KEY0.out _ _ own1.sl.2).mono ?_
    rintro e w2 ⟨S2, rfl, sr2, hb2⟩
    have B2 := B1.trans (hb2.mono Z1)
    have Z2 : w.heap.size + 1 ≤ w2.heap.size := by have := hb2.size; omega
    have SR2 := Lib.hid sr2
    clear hb2 own1 B1 Z1 sr2
    go_wp2_with fail
    refine (KEY1.out _ _ _ _ _ ((SR2.out).keep ((((Below.refl _ _).alloc (Nat.le_refl _) _).alloc (by simp) _).alloc (by simp; omega) _) (Nat.le_refl _)) (sr_lit w2 3 31 #[.int .i64 1099511627776, .int .i64 5] #[.int .i64 (-1099511627776), .int .i64 1099511627776] [far, 5] [-far, far] 2 2 rfl rfl rfl rfl rfl rfl rfl)).mono ?_
    rintro e w3 ⟨rfl, n3, rfl⟩
    have B3 := below_drewN (((B2.alloc Z2 (.cells #[.int .i64 1099511627776, .int .i64 5] 3)).alloc (by simp; omega) (.cells #[.int .i64 (-1099511627776), .int .i64 1099511627776] 3)).alloc (by simp; omega) (.cells #[.slice (some ⟨w2.heap.size, 0, none⟩) 2 2, .slice (some ⟨w2.heap.size + 1, 0, none⟩) 2 2] 31)) n3
    have Z3 : w.heap.size + 1 ≤ (((w2.alloc (.cells #[.int .i64 1099511627776, .int .i64 5] 3)).alloc (.cells #[.int .i64 (-1099511627776), .int .i64 1099511627776] 3)).alloc (.cells #[.slice (some ⟨w2.heap.size, 0, none⟩) 2 2, .slice (some ⟨w2.heap.size + 1, 0, none⟩) 2 2] 31)).heap.size := by simp; omega
    generalize (((w2.alloc (.cells #[.int .i64 1099511627776, .int .i64 5] 3)).alloc (.cells #[.int .i64 (-1099511627776), .int .i64 1099511627776] 3)).alloc (.cells #[.slice (some ⟨w2.heap.size, 0, none⟩) 2 2, .slice (some ⟨w2.heap.size + 1, 0, none⟩) 2 2] 31)) = w3 at B3 Z3 ⊢
    clear SR2 B2 Z2
    have z3 : w.heap.size < w3.heap.size := by omega
    have H3 := hw0.trans (B3.mono (Nat.le_succ _))
    obtain ⟨cc3, _⟩ := keepAt B3 (Nat.lt_succ_self _)
    have q0 := cc3 0
    have q1 := cc3 1
    simp at q0 q1
    clear cc3
    go_wp2_with fail
    refine (K2.out _ ((hs.keep H3 (Nat.le_refl _)).more (by simp; omega))).mono ?_
    rintro e w4 ⟨rfl, hb4⟩
    have B4 := B3.trans (hb4.mono Z3)
    have H4 := hw0.trans (B4.mono (Nat.le_succ _))
    have z4 : w.heap.size < w4.heap.size := by have := hb4.size; simp at this; omega
    clear hb4 q0 q1
    obtain ⟨cc4, _⟩ := keepAt B4 (Nat.lt_succ_self _)
    have q0 := cc4 0
    have q1 := cc4 1
    simp at q0 q1
    clear cc4 B3 H3 z3 Z3
    go_wp2_with fail
    refine (K6.out _ ((hs.keep H4 (Nat.le_refl _)).more (by omega))).mono ?_
    rintro e w5 ⟨rfl, hb5⟩
    have H5 := H4.trans (hb5.mono (by omega))
    clear hb5 q0 q1
    go_wp2
    go_ret
    exact ⟨rfl, H5⟩

theorem own : ownKnob Try.prog.godebug = none := by kernel_rfl
theorem laidOut : laidOutB Try.prog = true := by kernel_rfl

set_option maxRecDepth 100000 in
theorem lifted (os : Os) (started : os.Started) (H : Type) (enc : TypeId × Value → H) :
    ReturnsInHanded {} Try.checked os 7 .any (Rows.floydWidthSpec.pre6 enc Try.prog Try.f7 Rows.floydWidthRow.domain false) (Rows.floydWidthSpec.post enc Try.prog Try.f7 false true false false) := by
  refine returnsInHanded_of_change (C := Try.checked) own started (by kernel_rfl) Try.func7
    (ChangeSpec.witness6 (enc := enc) (C := Try.checked) false ⟨#[], #[.agg #[.int .i64 0, .slice none 0 0], .int .i64 0, .int .i64 0, .int .i64 0], []⟩ 8 (by kernel_rfl) (by kernel_rfl) (by kernel_rfl) (by kernel_rfl)) ?_
  intro W base args ds gs before hval0 hW hcnd _
  have hval : ∀ (j : Nat) t v, Try.f7.params[j]? = some t → args[j]? = some v → Value.okWide Try.prog W .any base t v := hval0
  have hW' := hW
  obtain ⟨p, q, hA0, hV, rfl, hfz, hnd⟩ := hW
  have hA : DataW.TrodAll enc Try.prog W 0 (fun _ => true) true Try.f7.params.toList args.toList ds p := hA0
  rw [Try.params7] at hA hval
  obtain ⟨v0, vs0, d0, ds0, p0, q0, hargs, rfl, rfl, h0, r0⟩ := trodAll_cons hA
  obtain ⟨v1, vs1, d1, ds1, p1, q1, rfl, rfl, rfl, h1, r1⟩ := trodAll_cons r0
  obtain ⟨v2, vs2, d2, ds2, p2, q2, rfl, rfl, rfl, h2, r2⟩ := trodAll_cons r1
  obtain ⟨v3, vs3, d3, ds3, p3, q3, rfl, rfl, rfl, h3, r3⟩ := trodAll_cons r2
  obtain ⟨rfl, rfl, rfl⟩ := trodAll_nil r3
  obtain rfl : args = #[v0, v1, v2, v3] := by cases args; simp_all
  obtain ⟨rfl, rfl⟩ := trodVars_none hV
  obtain ⟨N0, A0, c0, l0, dd0, rfl, hN0, hG0, hb0, rfl, hd0⟩ := open_net Try.underlying24 (by kernel_rfl) (by kernel_rfl) Try.underlying3 Try.underlying22 Try.underlying35 (by kernel_rfl) (by kernel_rfl) Try.underlying3 Try.underlying3 Try.underlying3 (hval 0 24 v0 rfl rfl) h0
  obtain ⟨a1, rfl, rfl, rfl, wa1⟩ := open_int Try.underlying3 (hval 1 3 v1 rfl rfl) h1
  obtain ⟨a2, rfl, rfl, rfl, wa2⟩ := open_int Try.underlying3 (hval 2 3 v2 rfl rfl) h2
  obtain ⟨a3, rfl, rfl, rfl, wa3⟩ := open_int Try.underlying3 (hval 3 3 v3 rfl rfl) h3
  refine (walk W N0 A0 c0 l0 hG0 a1 (wf_bd wa1) a2 (wf_bd wa2) a3 (wf_bd wa3)).mono fun e W' ⟨he, hB⟩ => ?_
  subst he
  exact ⟨_, rfl, post_of_law laidOut rfl Try.underlying4 rfl (by intro t ht; rw [Try.params7] at ht; simp at ht; rcases ht with rfl | rfl | rfl | rfl <;> exact ⟨by kernel_rfl, of_decide_eq_true (by kernel_rfl)⟩) hW' rfl hB⟩

theorem holds : Rows.FloydWidthSaid :=
  OpenClaim.holds_of_wide 7 Try.f7 rfl rfl rfl rfl rfl rfl rfl ⟨rfl, rfl, rfl, rfl, rfl⟩ rfl rfl rfl rfl rfl (by kernel_rfl) Try.func7 (by kernel_rfl)
    (of_decide_eq_true (by kernel_rfl)) (by unfold Func.isWrapper; first | (rw [if_pos (by decide +kernel)]; kernel_rfl) | (rw [if_neg (by decide +kernel)]; exact ⟨rfl, rfl⟩))
    (fun os started H enc _ => lifted os started H enc)
#print axioms holds
end Go.Proofs.Ytdgglgiafmndnaa.FloydWidthLaw
