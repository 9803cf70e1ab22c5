/- For every net, heights and path: JohnShifts answers true (with heights each walk's cost shifts by the heights of its ends), and the arguments read as before. No condition. -/
import Derived.Test.YtdgglgiafmndnaaRows
import Derived.Test.YtdgglgiafmndnaaOpen
import Derived.Test.YtdgglgiafmndnaaJohnWalks
import Derived.Test.YtdgglgiafmndnaaWalkCost
import Derived.Test.YtdgglgiafmndnaaRefs
import Derived.BigRegion
import Derived.BigQuiet
namespace Go.Proofs.Ytdgglgiafmndnaa.JohnShiftsLaw
open Go.ChangeShapes Go.WideShapes Go.ChangeAt Go.RowKit Go.Proofs.Ytdgglgiafmndnaa NetLaw JohnLaw WalkLaw Go.Proofs.Ytdgglgiafmndnaa.Net Go.Proofs.Ytdgglgiafmndnaa.John Go.Proofs.Ytdgglgiafmndnaa.Walk Go.Proofs.Ytdgglgiafmndnaa.Refs Go.Proofs.Ytdgglgiafmndnaa.Std
set_option linter.unusedSimpArgs false
set_option linter.unusedVariables false

theorem first_ok : ferr 2 [(0, 1, 5)] [0, 5] = 0 := by decide +kernel
theorem first_flt : flt [0, 5] [(0, 1, 5)] = [(0, 1, 0)] := by decide +kernel
/-- what the path and the heights hold at a walk's ends -/
structure Ends (N : Int) (l : List E) (h p : List Int) (m x y : Nat) : Prop where
  len : p.length = m + 1
  x0 : p[0]? = some (x : Int)
  y0 : p[m]? = some (y : Int)
  xh : x < h.length
  yh : y < h.length
  val : (cost N (flt h l) p).1 = (cost N l p).1 + h.getD x 0 - h.getD y 0
  xl : -1000000 ≤ h.getD x 0 ∧ h.getD x 0 ≤ 1000000
  yl : -1000000 ≤ h.getD y 0 ∧ h.getD y 0 ≤ 1000000
theorem ends_of {N : Int} {l : List E} {h p : List Int} (hz : ferr N l h = 0) (hc : (cost N l p).2 = 0) : ∃ m x y, Ends N l h p m x y := by
  obtain ⟨hp, hv⟩ := cost_flt_val hz p hc
  obtain ⟨_, h1, _, h3, _⟩ := cost_zero.1 hc
  have hg := (ferr_good hz).1
  have hin : ∀ v ∈ p, 0 ≤ v ∧ v < N := fun v hm => by
    have := h3
    simp only [List.any_eq_false] at this
    have h4 := this v hm
    simp only [outB, Bool.or_eq_true, decide_eq_true_eq] at h4
    omega
  obtain ⟨x0, x1⟩ := hin _ (List.head_mem hp)
  obtain ⟨y0, y1⟩ := hin _ (List.getLast_mem hp)
  obtain ⟨x, hx⟩ := Int.eq_ofNat_of_zero_le x0
  obtain ⟨y, hy⟩ := Int.eq_ofNat_of_zero_le y0
  have hl := hg.len
  have get : ∀ v, v < h.length → -1000000 ≤ h.getD v 0 ∧ h.getD v 0 ≤ 1000000 := fun v hv => by
    rw [List.getD_eq_getElem?_getD, List.getElem?_eq_getElem hv]
    exact hg.lift _ (List.getElem_mem hv)
  refine ⟨p.length - 1, x, y, by omega, ?_, ?_, by omega, by omega, ?_, get x (by omega), get y (by omega)⟩
  · rw [← hx, ← List.head?_eq_getElem?, List.head?_eq_some_head hp]
  · rw [← hy, ← List.getLast?_eq_getElem?, List.getLast?_eq_some_getLast hp]
  · rw [hv, hx, hy]
    simp [ht]

set_option maxRecDepth 100000 in
set_option maxHeartbeats 4000000 in
theorem walk (w : World) (N : Int) (A : Option Addr) (c : Nat) (l : List E) (hA : Arg w 3 ce A c l) (A1 : Option Addr) (c1 : Nat) (h : List Int) (hA1 : Arg w 1 ci A1 c1 h) (A2 : Option Addr) (c2 : Nat) (p : List Int) (hA2 : Arg w 1 ci A2 c2 p) :
    Calls Try.prog 9 #[.agg #[.int .i64 N, .slice A l.length c], .slice A1 h.length c1, .slice A2 p.length c2] w fun e w' => e = .returned (.bool true) ∧ Below w.heap.size w w' := by
  have hs := hA.sl
  have hh := hA1.sl
  have hp := hA2.sl
  have hll : l.length ≤ 9223372036854775807 := Nat.le_trans hA.cap hA.max
  have hhl : h.length ≤ 9223372036854775807 := Nat.le_trans hA1.cap hA1.max
  have hpl : p.length ≤ 9223372036854775807 := Nat.le_trans hA2.cap hA2.max
  have hnil := hA.nil
  clear hA hA1 hA2
  have hw0 : Below w.heap.size w (w.alloc (.cells #[.int .i64 N, .slice A l.length c] 24)) := (Below.refl _ _).alloc (Nat.le_refl _) _
  have key0 : ∀ (W : World) (g g' : Nat), Sl W W.heap.size 3 ce (some ⟨g, 0, none⟩) [(0, 1, 5)] → Sl W W.heap.size 1 ci (some ⟨g', 0, none⟩) [0, 5] → Calls Try.prog 22 #[.agg #[.int .i64 2, .slice (some ⟨g, 0, none⟩) 1 1], .slice (some ⟨g', 0, none⟩) 2 2] W fun e w' => ∃ A c, e = .returned (.tuple #[.agg #[.int .i64 2, .slice A 1 c], .int .i64 0]) ∧ Own w' W.heap.size 35 3 ce (.slice A 1 c) [(0, 1, 0)] ∧ Below W.heap.size W w' := fun W g g' h1 h2 => by
    refine (Flat_any 2 (some ⟨g, 0, none⟩) 1 [(0, 1, 5)] (some ⟨g', 0, none⟩) 2 [0, 5] W h1 (fun h => by cases h) h2 (by decide) (by decide)).mono ?_
    rintro e w' ⟨_, k2, k3⟩
    obtain ⟨A, c, k4, k5⟩ := k2 first_ok
    rw [first_flt] at k5
    exact ⟨A, c, k4, k5, k3⟩
  have key1 : ∀ (W : World) (A : Option Addr) (c g : Nat), Sl W W.heap.size 3 ce A [(0, 1, 0)] → Sl W W.heap.size 3 ce (some ⟨g, 0, none⟩) [(0, 1, 0)] → Calls Try.prog 23 #[.agg #[.int .i64 2, .slice A 1 c], .agg #[.int .i64 2, .slice (some ⟨g, 0, none⟩) 1 1]] W fun e w' => e = .returned (.bool true) ∧ Below W.heap.size W w' :=
    fun W A c g h1 h2 => same_net 2 2 A (some ⟨g, 0, none⟩) 1 1 c 1 [(0, 1, 0)] [(0, 1, 0)] W h1 h2 rfl rfl (by decide) true (by decide)
  have KEY0 := Lib.hid key0
  have KEY1 := Lib.hid key1
  clear key0 key1
  have key2 := fun W h1 h2 => Flat_any N A c l A1 c1 h W h1 hnil h2 hll hhl
  have key3 := fun W h1 h2 => cost_any N A c l A2 c2 p W h1 h2 hll hpl
  have key4 : ∀ W A' c', Sl W W.heap.size 3 ce A' (flt h l) → Sl W W.heap.size 1 ci A2 p → Calls Try.prog 41 #[.agg #[.int .i64 N, .slice A' l.length c'], .slice A2 p.length c2] W fun e w' => e = .returned (.tuple #[.int .i64 (cost N (flt h l) p).1, .int .i64 (cost N (flt h l) p).2]) ∧ Below W.heap.size W w' := fun W A' c' h1 h2 => by
    have k := cost_any N A' c' (flt h l) A2 c2 p W h1 h2 (by rw [flt, List.length_map]; exact hll) hpl
    rw [show (flt h l).length = l.length by simp [flt]] at k
    exact k
  by_cases hz : ferr N l h = 0
  · have key5 : ∀ W, Sl W W.heap.size 3 ce A l → Sl W W.heap.size 1 ci A1 h → Calls Try.prog 22 #[.agg #[.int .i64 N, .slice A l.length c], .slice A1 h.length c1] W fun e w' => ∃ A c, e = .returned (.tuple #[.agg #[.int .i64 N, .slice A l.length c], .int .i64 0]) ∧ Own w' W.heap.size 35 3 ce (.slice A l.length c) (flt h l) ∧ Below W.heap.size W w' := fun W h1 h2 => by
      refine (key2 W h1 h2).mono ?_
      rintro e w' ⟨_, k2, k3⟩
      obtain ⟨A, c, k4, k5⟩ := k2 hz
      exact ⟨A, c, k4, k5, k3⟩
    have KEY2 := Lib.hid key5
    have hcf := cost_flt hz p
    rw [hcf] at key4
    have HZ := Lib.hid hz
    clear key2 key5 hcf hz
    by_cases hc : (cost N l p).2 = 0
    · obtain ⟨m, x, y, he⟩ := ends_of HZ.out hc
      rw [hc, he.val, he.len] at key4
      rw [hc, he.len] at key3
      have hbd := cost_bd (N := N) (l := l) (p := p)
      obtain ⟨n1, n2⟩ := hbd
      obtain ⟨x1, x2⟩ := he.xl
      obtain ⟨y1, y2⟩ := he.yl
      have hlen := he.len
      generalize (cost N l p).1 = n at *
      have KEY3 := Lib.hid key3
      have KEY4 := Lib.hid key4
      have HE := Lib.hid he
      have hml : m + 1 ≤ 9223372036854775807 := by omega
      have w1' : IntKind.i64.wrap (m : Int) = (m : Int) := IntWalk.i64_in _ (by omega)
      have w2' : (m : Int) < (m : Int) + 1 := by omega
      have w3' : (0 : Int) < (m : Int) + 1 := by omega
      have HLEN := Lib.hid hlen
      clear key3 key4 hc he hlen hpl
      rw [HLEN.out]
      go_enter Try.func9, Try.ntmps9
      go_wp2_with fail
      refine (two_any _).mono ?_
      rintro e w1 ⟨g, rfl, own1, hb1⟩
      have B1 : Below (w.heap.size + 1) (w.alloc (.cells #[.int .i64 N, .slice A l.length c] 24)) w1 := hb1.mono (by simp)
      have Z1 : w.heap.size + 1 ≤ w1.heap.size := by have := hb1.size; simp at this; omega
      clear hb1
      go_wp2_with fail
      refine (KEY0.out _ _ _ (own1.alloc _).sl.2 (sl_new' (by decide) w1 #[.int .i64 0, .int .i64 5] _ _ rfl rfl)).mono ?_
      rintro e w2 ⟨A2', c2', rfl, own2, hb2⟩
      have B2 := (B1.alloc Z1 (.cells #[.int .i64 0, .int .i64 5] 3)).trans (hb2.mono (by simp; omega))
      have Z2 : w.heap.size + 1 ≤ w2.heap.size := by have := hb2.size; simp at this; omega
      clear hb2 own1 B1
      go_wp2_with fail
      refine (KEY1.out _ _ _ _ ((own2.alloc _).alloc _).sl.2 (sl_new' (by decide) (w2.alloc (.cells #[.int .i64 2, .slice A2' 1 c2'] 24)) #[.int .i64 0, .int .i64 1, .int .i64 0] _ _ (by simp) rfl)).mono ?_
      rintro e w4 ⟨rfl, hb4⟩
      have B4 := ((B2.alloc Z2 (.cells #[.int .i64 2, .slice A2' 1 c2'] 24)).alloc (by simp; omega) (.cells #[.int .i64 0, .int .i64 1, .int .i64 0] 35)).trans (hb4.mono (by simp; omega))
      have z4 : w.heap.size + 1 ≤ w4.heap.size := by have := hb4.size; simp at this; omega
      have z4' : w.heap.size ≤ w4.heap.size := by omega
      have H4 := hw0.trans (B4.mono (Nat.le_succ _))
      clear hb4 own2 B2
      obtain ⟨cc4, _⟩ := keepAt B4 (Nat.lt_succ_self _)
      have q0 := cc4 0
      have q1 := cc4 1
      simp at q0 q1
      clear cc4
      go_wp2_with fail
      refine (KEY2.out _ ((hs.keep H4 (Nat.le_refl _)).more z4') ((hh.keep H4 (Nat.le_refl _)).more z4')).mono ?_
      rintro e w5 ⟨A5, c5, rfl, own5, hb5⟩
      have B5 := (B4.trans (hb5.mono z4)).alloc (show w.heap.size + 1 ≤ w5.heap.size by have := hb5.size; omega) (.cells #[.int .i64 N, .slice A5 l.length c5] 24)
      have z5 : w.heap.size + 1 ≤ w5.heap.size := by have := hb5.size; omega
      have z5' : w.heap.size ≤ (w5.alloc (.cells #[.int .i64 N, .slice A5 l.length c5] 24)).heap.size := by simp; omega
      have H5 := hw0.trans (B5.mono (Nat.le_succ _))
      have hG5 := heap_alloc_new w5 (.cells #[.int .i64 N, .slice A5 l.length c5] 24)
      have own5' := own5.alloc (.cells #[.int .i64 N, .slice A5 l.length c5] 24)
      clear hb5 own5 B4 q0 q1 H4
      obtain ⟨cc5, _⟩ := keepAt B5 (Nat.lt_succ_self _)
      have q0 := cc5 0
      have q1 := cc5 1
      simp at q0 q1
      clear cc5
      have HG5 := Lib.hid hG5
      have OWN5 := Lib.hid own5'
      clear hG5 own5'
      go_wp2_with fail
      refine (KEY3.out _ ((hs.keep H5 (Nat.le_refl _)).more z5') ((hp.keep H5 (Nat.le_refl _)).more z5')).mono ?_
      rintro e w6 ⟨rfl, hb6⟩
      have B6 := B5.trans (hb6.mono (by simp; omega))
      have H6 := hw0.trans (B6.mono (Nat.le_succ _))
      have hG6 := blk_below HG5.out hb6 (by simp)
      have own6 := OWN5.out.keep hb6
      have z6 : w.heap.size ≤ w6.heap.size := H6.size
      have g0 := blk_cell hG6 0
      have g1 := blk_cell hG6 1
      simp only [List.getElem?_toArray, List.getElem?_cons_zero, List.getElem?_cons_succ] at g0 g1
      clear hG6 hb6 B5 H5 q0 q1 HG5 OWN5
      go_wp2_with fail
      refine (KEY4.out _ _ _ own6.sl.2 ((hp.keep H6 (Nat.le_refl _)).more z6)).mono ?_
      rintro e w7 ⟨rfl, hb7⟩
      have H7 := H6.trans (hb7.mono z6)
      clear hb7 own6 g0 g1
      have he := HE.out
      obtain ⟨b, off, rfl, hbB, pc0⟩ := (hp.keep H7 (Nat.le_refl _)).atI (k := 0) (by rw [HLEN.out]; omega)
      obtain ⟨b', off', hbe, _, pc1⟩ := (hp.keep H7 (Nat.le_refl _)).atI (k := m) (by rw [HLEN.out]; omega)
      injection hbe with hbe
      injection hbe with hb1 hb2 _
      subst hb1 hb2
      obtain ⟨bh, oh, rfl, hbh, hx0⟩ := (hh.keep H7 (Nat.le_refl _)).atI he.xh
      obtain ⟨bh', oh', hbe, _, hy0⟩ := (hh.keep H7 (Nat.le_refl _)).atI he.yh
      injection hbe with hbe
      injection hbe with hb1 hb2 _
      subst hb1 hb2
      have e1 := he.x0
      have e2 := he.y0
      rw [List.getElem?_eq_getElem (by rw [HLEN.out]; omega)] at e1 e2
      injection e1 with e1
      injection e2 with e2
      rw [e1, Nat.add_zero] at pc0
      rw [e2] at pc1
      have e3 : h.getD x 0 = h[x]'he.xh := by rw [List.getD_eq_getElem?_getD, List.getElem?_eq_getElem he.xh]; rfl
      have e4 : h.getD y 0 = h[y]'he.yh := by rw [List.getD_eq_getElem?_getD, List.getElem?_eq_getElem he.yh]; rfl
      rw [← e3] at hx0
      rw [← e4] at hy0
      have xh := he.xh
      have yh := he.yh
      generalize h.getD x 0 = X at *
      generalize h.getD y 0 = Y at *
      clear e1 e2 e3 e4 he hs hh hp H6 B6
      go_wp2
      go_quiet (fail)
      go_wp2
      go_ret
      exact ⟨by simp, below_drewN H7 _⟩
    · have hcb : ((cost N l p).2 != 0) = true := by rw [bne_iff_ne]; exact hc
      generalize (cost N l p).2 = x at *
      generalize (cost N l p).1 = n at *
      generalize (cost N (flt h l) p).1 = m at *
      have KEY3 := Lib.hid key3
      have KEY4 := Lib.hid key4
      clear key3 key4 hc
      go_enter Try.func9, Try.ntmps9
      go_wp2_with fail
      refine (two_any _).mono ?_
      rintro e w1 ⟨g, rfl, own1, hb1⟩
      have B1 : Below (w.heap.size + 1) (w.alloc (.cells #[.int .i64 N, .slice A l.length c] 24)) w1 := hb1.mono (by simp)
      have Z1 : w.heap.size + 1 ≤ w1.heap.size := by have := hb1.size; simp at this; omega
      clear hb1
      go_wp2_with fail
      refine (KEY0.out _ _ _ (own1.alloc _).sl.2 (sl_new' (by decide) w1 #[.int .i64 0, .int .i64 5] _ _ rfl rfl)).mono ?_
      rintro e w2 ⟨A2', c2', rfl, own2, hb2⟩
      have B2 := (B1.alloc Z1 (.cells #[.int .i64 0, .int .i64 5] 3)).trans (hb2.mono (by simp; omega))
      have Z2 : w.heap.size + 1 ≤ w2.heap.size := by have := hb2.size; simp at this; omega
      clear hb2 own1 B1
      go_wp2_with fail
      refine (KEY1.out _ _ _ _ ((own2.alloc _).alloc _).sl.2 (sl_new' (by decide) (w2.alloc (.cells #[.int .i64 2, .slice A2' 1 c2'] 24)) #[.int .i64 0, .int .i64 1, .int .i64 0] _ _ (by simp) rfl)).mono ?_
      rintro e w4 ⟨rfl, hb4⟩
      have B4 := ((B2.alloc Z2 (.cells #[.int .i64 2, .slice A2' 1 c2'] 24)).alloc (by simp; omega) (.cells #[.int .i64 0, .int .i64 1, .int .i64 0] 35)).trans (hb4.mono (by simp; omega))
      have z4 : w.heap.size + 1 ≤ w4.heap.size := by have := hb4.size; simp at this; omega
      have z4' : w.heap.size ≤ w4.heap.size := by omega
      have H4 := hw0.trans (B4.mono (Nat.le_succ _))
      clear hb4 own2 B2
      obtain ⟨cc4, _⟩ := keepAt B4 (Nat.lt_succ_self _)
      have q0 := cc4 0
      have q1 := cc4 1
      simp at q0 q1
      clear cc4
      go_wp2_with fail
      refine (KEY2.out _ ((hs.keep H4 (Nat.le_refl _)).more z4') ((hh.keep H4 (Nat.le_refl _)).more z4')).mono ?_
      rintro e w5 ⟨A5, c5, rfl, own5, hb5⟩
      have B5 := (B4.trans (hb5.mono z4)).alloc (show w.heap.size + 1 ≤ w5.heap.size by have := hb5.size; omega) (.cells #[.int .i64 N, .slice A5 l.length c5] 24)
      have z5 : w.heap.size + 1 ≤ w5.heap.size := by have := hb5.size; omega
      have z5' : w.heap.size ≤ (w5.alloc (.cells #[.int .i64 N, .slice A5 l.length c5] 24)).heap.size := by simp; omega
      have H5 := hw0.trans (B5.mono (Nat.le_succ _))
      have hG5 := heap_alloc_new w5 (.cells #[.int .i64 N, .slice A5 l.length c5] 24)
      have own5' := own5.alloc (.cells #[.int .i64 N, .slice A5 l.length c5] 24)
      clear hb5 own5 B4 q0 q1 H4
      obtain ⟨cc5, _⟩ := keepAt B5 (Nat.lt_succ_self _)
      have q0 := cc5 0
      have q1 := cc5 1
      simp at q0 q1
      clear cc5
      have HG5 := Lib.hid hG5
      have OWN5 := Lib.hid own5'
      clear hG5 own5'
      go_wp2_with fail
      refine (KEY3.out _ ((hs.keep H5 (Nat.le_refl _)).more z5') ((hp.keep H5 (Nat.le_refl _)).more z5')).mono ?_
      rintro e w6 ⟨rfl, hb6⟩
      have B6 := B5.trans (hb6.mono (by simp; omega))
      have H6 := hw0.trans (B6.mono (Nat.le_succ _))
      have hG6 := blk_below HG5.out hb6 (by simp)
      have own6 := OWN5.out.keep hb6
      have z6 : w.heap.size ≤ w6.heap.size := H6.size
      have g0 := blk_cell hG6 0
      have g1 := blk_cell hG6 1
      simp only [List.getElem?_toArray, List.getElem?_cons_zero, List.getElem?_cons_succ] at g0 g1
      clear hG6 hb6 B5 H5 q0 q1 HG5 OWN5
      go_wp2_with fail
      refine (KEY4.out _ _ _ own6.sl.2 ((hp.keep H6 (Nat.le_refl _)).more z6)).mono ?_
      rintro e w7 ⟨rfl, hb7⟩
      have H7 := H6.trans (hb7.mono z6)
      clear hb7 own6 g0 g1
      go_wp2
      go_ret
      exact ⟨by simp, H7⟩
  · have key5 : ∀ W, Sl W W.heap.size 3 ce A l → Sl W W.heap.size 1 ci A1 h → Calls Try.prog 22 #[.agg #[.int .i64 N, .slice A l.length c], .slice A1 h.length c1] W fun e w' => ∃ x, x ≠ 0 ∧ e = .returned (.tuple #[.agg #[.int .i64 0, .slice none 0 0], .int .i64 x]) ∧ Below W.heap.size W w' := fun W h1 h2 => by
      refine (key2 W h1 h2).mono ?_
      rintro e w' ⟨k1, _, k3⟩
      exact ⟨_, hz, k1 hz, k3⟩
    have KEY2 := Lib.hid key5
    clear key2 key3 key4 key5 hz
    go_enter Try.func9, Try.ntmps9
    go_wp2_with fail
    refine (two_any _).mono ?_
    rintro e w1 ⟨g, rfl, own1, hb1⟩
    have B1 : Below (w.heap.size + 1) (w.alloc (.cells #[.int .i64 N, .slice A l.length c] 24)) w1 := hb1.mono (by simp)
    have Z1 : w.heap.size + 1 ≤ w1.heap.size := by have := hb1.size; simp at this; omega
    clear hb1
    go_wp2_with fail
    refine (KEY0.out _ _ _ (own1.alloc _).sl.2 (sl_new' (by decide) w1 #[.int .i64 0, .int .i64 5] _ _ rfl rfl)).mono ?_
    rintro e w2 ⟨A2', c2', rfl, own2, hb2⟩
    have B2 := (B1.alloc Z1 (.cells #[.int .i64 0, .int .i64 5] 3)).trans (hb2.mono (by simp; omega))
    have Z2 : w.heap.size + 1 ≤ w2.heap.size := by have := hb2.size; simp at this; omega
    clear hb2 own1 B1
    go_wp2_with fail
    refine (KEY1.out _ _ _ _ ((own2.alloc _).alloc _).sl.2 (sl_new' (by decide) (w2.alloc (.cells #[.int .i64 2, .slice A2' 1 c2'] 24)) #[.int .i64 0, .int .i64 1, .int .i64 0] _ _ (by simp) rfl)).mono ?_
    rintro e w4 ⟨rfl, hb4⟩
    have B4 := ((B2.alloc Z2 (.cells #[.int .i64 2, .slice A2' 1 c2'] 24)).alloc (by simp; omega) (.cells #[.int .i64 0, .int .i64 1, .int .i64 0] 35)).trans (hb4.mono (by simp; omega))
    have z4 : w.heap.size + 1 ≤ w4.heap.size := by have := hb4.size; simp at this; omega
    have z4' : w.heap.size ≤ w4.heap.size := by omega
    have H4 := hw0.trans (B4.mono (Nat.le_succ _))
    clear hb4 own2 B2
    obtain ⟨cc4, _⟩ := keepAt B4 (Nat.lt_succ_self _)
    have q0 := cc4 0
    have q1 := cc4 1
    simp at q0 q1
    clear cc4
    go_wp2_with fail
    refine (KEY2.out _ ((hs.keep H4 (Nat.le_refl _)).more z4') ((hh.keep H4 (Nat.le_refl _)).more z4')).mono ?_
    rintro e w5 ⟨x, hx, rfl, hb5⟩
    have hx1 : (x != 0) = true := by rw [bne_iff_ne]; exact hx
    have H5 := H4.trans (hb5.mono z4')
    have z5 := H5.size
    clear hb5 hx hs hh hp B4 H4 q0 q1
    go_wp2
    go_ret
    exact ⟨rfl, H5.alloc z5 _⟩

theorem own : ownKnob Try.prog.godebug = none := by kernel_rfl
theorem laidOut : laidOutB Try.prog = true := by kernel_rfl

set_option maxRecDepth 100000 in
theorem lifted (os : Os) (started : os.Started) (H : Type) (enc : TypeId × Value → H) :
    ReturnsInHanded {} Try.checked os 9 .any (Rows.johnShiftsSpec.pre6 enc Try.prog Try.f9 Rows.johnShiftsRow.domain false) (Rows.johnShiftsSpec.post enc Try.prog Try.f9 false true false false) := by
  refine returnsInHanded_of_change (C := Try.checked) own started (by kernel_rfl) Try.func9
    (ChangeSpec.witness6 (enc := enc) (C := Try.checked) false ⟨#[], #[.agg #[.int .i64 0, .slice none 0 0], .slice none 0 0, .slice none 0 0], []⟩ 8 (by kernel_rfl) (by kernel_rfl) (by kernel_rfl) (by kernel_rfl)) ?_
  intro W base args ds gs before hval0 hW hcnd _
  have hval : ∀ (j : Nat) t v, Try.f9.params[j]? = some t → args[j]? = some v → Value.okWide Try.prog W .any base t v := hval0
  have hW' := hW
  obtain ⟨p, q, hA0, hV, rfl, hfz, hnd⟩ := hW
  have hA : DataW.TrodAll enc Try.prog W 0 (fun _ => true) true Try.f9.params.toList args.toList ds p := hA0
  rw [Try.params9] at hA hval
  obtain ⟨v0, vs0, d0, ds0, p0, q0, hargs, rfl, rfl, h0, r0⟩ := trodAll_cons hA
  obtain ⟨v1, vs1, d1, ds1, p1, q1, rfl, rfl, rfl, h1, r1⟩ := trodAll_cons r0
  obtain ⟨v2, vs2, d2, ds2, p2, q2, rfl, rfl, rfl, h2, r2⟩ := trodAll_cons r1
  obtain ⟨rfl, rfl, rfl⟩ := trodAll_nil r2
  obtain rfl : args = #[v0, v1, v2] := by cases args; simp_all
  obtain ⟨rfl, rfl⟩ := trodVars_none hV
  obtain ⟨N0, A0, c0, l0, dd0, rfl, hN0, hG0, hb0, rfl, hd0⟩ := open_net Try.underlying24 (by kernel_rfl) (by kernel_rfl) Try.underlying3 Try.underlying22 Try.underlying35 (by kernel_rfl) (by kernel_rfl) Try.underlying3 Try.underlying3 Try.underlying3 (hval 0 24 v0 rfl rfl) h0
  obtain ⟨A1, c1, l1, rfl, hG1, hd1, hb1⟩ := open_sl1 Try.underlying31 Try.underlying3 (by kernel_rfl) (hval 1 31 v1 rfl rfl) h1
  obtain ⟨A2, c2, l2, rfl, hG2, hd2, hb2⟩ := open_sl1 Try.underlying31 Try.underlying3 (by kernel_rfl) (hval 2 31 v2 rfl rfl) h2
  refine (walk W N0 A0 c0 l0 hG0 A1 c1 l1 hG1 A2 c2 l2 hG2).mono fun e W' ⟨he, hB⟩ => ?_
  subst he
  exact ⟨_, rfl, post_of_law laidOut rfl Try.underlying4 rfl (by intro t ht; rw [Try.params9] at ht; simp at ht; rcases ht with rfl | rfl | rfl <;> exact ⟨by kernel_rfl, of_decide_eq_true (by kernel_rfl)⟩) hW' rfl hB⟩

theorem holds : Rows.JohnShiftsSaid :=
  OpenClaim.holds_of_wide 9 Try.f9 rfl rfl rfl rfl rfl rfl rfl ⟨rfl, rfl, rfl, rfl, rfl⟩ rfl rfl rfl rfl rfl (by kernel_rfl) Try.func9 (by kernel_rfl)
    (of_decide_eq_true (by kernel_rfl)) (by unfold Func.isWrapper; first | (rw [if_pos (by decide +kernel)]; kernel_rfl) | (rw [if_neg (by decide +kernel)]; exact ⟨rfl, rfl⟩))
    (fun os started H enc _ => lifted os started H enc)
#print axioms holds
end Go.Proofs.Ytdgglgiafmndnaa.JohnShiftsLaw
