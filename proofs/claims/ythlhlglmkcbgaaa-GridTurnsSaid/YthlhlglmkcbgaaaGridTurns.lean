/- For every grid and place: GridTurns answers true (ground turned over has the moves turned over), and the arguments read as before. No condition. -/
import Derived.Test.YthlhlglmkcbgaaaRows
import Derived.Test.YthlhlglmkcbgaaaOpen
import Derived.Test.YthlhlglmkcbgaaaGridMoves
import Derived.Test.YthlhlglmkcbgaaaGridNo
import Derived.Test.YthlhlglmkcbgaaaGridTurnsLaw
import Derived.Test.YthlhlglmkcbgaaaGridOver
import Derived.Test.YthlhlglmkcbgaaaStdR
import Derived.BigRegion
import Derived.Deep.CutRange
import Derived.Deep.OwnRows
import Derived.Deep.RegionHeld3
import Derived.Test.YthlhlglmkcbgaaaStdE
namespace Go.Proofs.Ythlhlglmkcbgaaa.GridTurnsLaw
open Go.ChangeShapes Go.WideShapes Go.ChangeAt Go.RowKit Go.Proofs.Ythlhlglmkcbgaaa GridLaw Go.Proofs.Ythlhlglmkcbgaaa.Grid Go.Proofs.Ythlhlglmkcbgaaa.Std
set_option linter.unusedSimpArgs false
set_option linter.unusedVariables false

/-- the box of the grid turned over -/
def Bx (w : World) (gb gh n : Nat) (W H : Int) : Prop := w.cell? ⟨gb, 0, none⟩ = some (.int .i64 W) ∧ w.cell? ⟨gb, 1, none⟩ = some (.int .i64 H) ∧ w.cell? ⟨gb, 2, none⟩ = some (.slice (some ⟨gh, 0, none⟩) n n)
theorem Bx.keep {w w' : World} {gb gh n B : Nat} {W H : Int} (h : Bx w gb gh n W H) (hb : Below B w w') (hB : gb < B) : Bx w' gb gh n W H := by
  obtain ⟨c, _⟩ := keepAt hb hB
  exact ⟨(c 0).trans h.1, (c 1).trans h.2.1, (c 2).trans h.2.2⟩
theorem Bx.drewN {w : World} {gb gh n : Nat} {W H : Int} (h : Bx w gb gh n W H) (k : Nat) : Bx (w.drewN k) gb gh n W H := h
theorem Bx.set {w : World} {gb gh n : Nat} {W H : Int} (h : Bx w gb gh n W H) {p : Addr} (hp : gb ≠ p.block) (u : Value) : Bx (w.setCell p u) gb gh n W H := by
  have e : ∀ o, (w.setCell p u).cell? ⟨gb, o, none⟩ = w.cell? ⟨gb, o, none⟩ := fun o => World.cell?_setCell_far _ _ _ _ (fun e => hp e.symm)
  exact ⟨(e 0).trans h.1, (e 1).trans h.2.1, (e 2).trans h.2.2⟩
set_option maxRecDepth 100000 in
set_option maxHeartbeats 8000000 in
theorem walk (w : World) (W H : Int) (A : Option Addr) (c : Nat) (l : List Int) (hW : -9223372036854775808 ≤ W ∧ W ≤ 9223372036854775807) (hH : -9223372036854775808 ≤ H ∧ H ≤ 9223372036854775807) (hA : Arg w 1 ci A c l) (a : Int) (ha : -9223372036854775808 ≤ a ∧ a ≤ 9223372036854775807) :
    Calls Try.prog 13 #[.agg #[.int .i64 W, .int .i64 H, .slice A l.length c], .int .i64 a] w fun e w' => e = .returned (.bool true) ∧ Below w.heap.size w w' := by
  have hs := hA.sl
  have hll : l.length ≤ 9223372036854775807 := Nat.le_trans hA.cap hA.max
  clear hA
  have hw0 : Below w.heap.size w (w.alloc (.cells #[.int .i64 W, .int .i64 H, .slice A l.length c] 70)) := (Below.refl _ _).alloc (Nat.le_refl _) _
  have key0 : ∀ (W : World) (g : Nat), Sl W W.heap.size 1 ci (some ⟨g, 0, none⟩) [1, 2] → Calls Try.prog 39 #[.agg #[.int .i64 2, .int .i64 1, .slice (some ⟨g, 0, none⟩) 2 2], .int .i64 1] W fun e w' => ∃ A c, e = .returned (.tuple #[.slice A 1 c, .int .i64 0]) ∧ Own w' W.heap.size 60 3 ce (.slice A 1 c) [(1, 0, 15)] ∧ Below W.heap.size W w' := by
    intro W g h
    have k := moves_yes 2 1 1 (some ⟨g, 0, none⟩) 2 [1, 2] W h (gchk_zero.1 (by decide +kernel)) (by decide) (by decide)
    rw [show mv 2 1 [1, 2] (1 % 2) (1 / 2) = [(1, 0, 15)] from by decide +kernel] at k
    exact k
  have key1 : ∀ (W : World) (A A' : Option Addr) (c : Nat) (B B' : Nat), Sl W B 3 ce A [(1, 0, 15)] → Sl W B' 3 ce A' [(1, 0, 15)] → Calls Try.prog 40 #[.slice A 1 c, .slice A' 1 1] W fun e w' => e = .returned (.bool true) ∧ ∃ k, w' = W.drewN k :=
    fun W A A' c B B' h h' => equal_edge' A A' 1 1 c 1 [(1, 0, 15)] [(1, 0, 15)] B B' W h h' rfl rfl (by decide) true (by decide)
  have KEY0 := Lib.hid key0
  have KEY1 := Lib.hid key1
  clear key0 key1
  by_cases hg : GGood W H l ∧ 0 ≤ a ∧ a < l.length
  · obtain ⟨hg, ha0, ha1⟩ := hg
    have hlen := hg.len
    have k3 := fun w' h => moves_yes W H a A c l w' h hg ha0 ha1
    have hmt := fun l' h => mv_turn (l' := l') hg h ha0 ha1
    have hmm := fun l' g' => moves_yes W H (ov W a) (some ⟨g', 0, none⟩) l.length l'
    have h8 := mv_eight W H l (a % W) (a / W)
    have hW1 := hg.w1
    have hW8 := hg.w8
    have hH1 := hg.h1
    have hH8 := hg.h8
    have m1 : W * H ≤ 8 * 8 := Int.mul_le_mul hW8 hH8 (by omega) (by omega)
    have hl64 : l.length ≤ 64 := by omega
    have hmk : ∀ w, (Instr.makeSlice 32 (.int .i64 (l.length : Int)) (.int .i64 (l.length : Int))).run Try.prog w = .ok (.slice (some ⟨w.heap.size, 0, none⟩) l.length l.length) (w.alloc (.cells (madeCells #[.int .i64 0] l.length) 3)) :=
      run_make_row' (P := Try.prog) 32 3 (.int .i64 0) 8 Try.underlying32 (by kernel_rfl) rfl .i64 .i64 l.length (by omega) (by omega)
    have HG := Lib.hid hg
    generalize mv W H l (a % W) (a / W) = m at k3 hmt h8
    have K3 := Lib.hid k3
    have HMT := Lib.hid hmt
    have HMM := Lib.hid hmm
    have HLEN := Lib.hid hlen
    clear k3 hmm hmt hlen m1 hg
    go_enter Try.func13, Try.ntmps13
    go_wp2_with fail
    refine (KEY0.out _ _ (sl_new' (by decide) _ #[.int .i64 1, .int .i64 2] _ _ (by simp) rfl)).mono ?_
    rintro e w1 ⟨A1, c1, rfl, own1, hb1⟩
    have B1 : Below (w.heap.size + 1) (w.alloc (.cells #[.int .i64 W, .int .i64 H, .slice A l.length c] 70)) w1 := ((Below.refl _ _).alloc (by simp) _).trans (hb1.mono (by simp))
    have Z1 : w.heap.size + 1 ≤ w1.heap.size := by have := hb1.size; simp at this; omega
    have z1 : w.heap.size < w1.heap.size := by omega
    clear hb1
    go_wp2_with fail
    refine (KEY1.out _ _ _ _ _ _ (own1.alloc _).sl.2 (sl_new' (by decide) _ #[.int .i64 1, .int .i64 0, .int .i64 15] _ _ rfl rfl)).mono ?_
    rintro e w2 ⟨rfl, n2, rfl⟩
    have B2 := below_drewN (B1.alloc Z1 (.cells #[.int .i64 1, .int .i64 0, .int .i64 15] 60)) n2
    have Z2 : w.heap.size + 1 ≤ (w1.alloc (.cells #[.int .i64 1, .int .i64 0, .int .i64 15] 60)).heap.size := by simp; omega
    have z2 : w.heap.size < (w1.alloc (.cells #[.int .i64 1, .int .i64 0, .int .i64 15] 60)).heap.size := by simp; omega
    generalize (w1.alloc (.cells #[.int .i64 1, .int .i64 0, .int .i64 15] 60)) = w2 at B2 Z2 z2 ⊢
    have H2 : Below w.heap.size w (w2.drewN n2) := hw0.trans (B2.mono (Nat.le_succ _))
    obtain ⟨cc2, ff2⟩ := keepAt B2 (Nat.lt_succ_self _)
    clear own1 B1 Z1 z1
    go_wp2_with fail
    refine (K3.out _ ((hs.keep H2 (Nat.le_refl _)).more (by simp; omega))).mono ?_
    rintro e w3 ⟨A3, c3, rfl, own3, hb3⟩
    have B3 := B2.trans (hb3.mono Z2)
    have Z3 : w.heap.size + 1 ≤ w3.heap.size := by have := hb3.size; simp at this; omega
    have z3 : w.heap.size < w3.heap.size := by omega
    have H3 : Below w.heap.size w w3 := hw0.trans (B3.mono (Nat.le_succ _))
    have sl3 := own3.sl.2
    clear hb3 cc2 ff2 B2 H2 z2 Z2 own3
    obtain ⟨cc3, ff3⟩ := keepAt B3 (Nat.lt_succ_self _)
    have q0 := cc3 0
    have q1 := cc3 1
    have q2 := cc3 2
    simp at q0 q1 q2
    clear cc3 ff3
    go_wp2
    go_region
    · obtain ⟨w4, hw4⟩ : ∃ w4, w4 = ((w3.alloc (.cells (madeCells #[.int .i64 0] l.length) 3)).alloc (.cells #[.int .i64 W, .int .i64 H, .slice (some ⟨w3.heap.size, 0, none⟩) l.length l.length] 70)).drew := ⟨_, rfl⟩
      have B4 : Below w3.heap.size w3 w4 := by rw [hw4]; exact (((Below.refl _ _).alloc (Nat.le_refl _) _).alloc (by simp) _).drew
      have own4 : Own w4 w3.heap.size 3 1 ci (.slice (some ⟨w3.heap.size, 0, none⟩) l.length l.length) (List.replicate l.length 0) := by rw [hw4]; exact (own_made l.length w3.heap.size w3 (Nat.le_refl _) hl64 rfl).alloc (.cells #[.int .i64 W, .int .i64 H, .slice (some ⟨w3.heap.size, 0, none⟩) l.length l.length] 70)
      have bx4 : Bx w4 (w3.heap.size + 1) (w3.heap.size) l.length W H := by rw [hw4]; exact ⟨by simp, by simp, by simp⟩
      have zz4 : (w3.heap.size) < w4.heap.size ∧ (w3.heap.size + 1) < w4.heap.size := by rw [hw4]; simp; try omega
      obtain ⟨zh4, zb4⟩ := zz4
      rw [← hw4]
      clear hw4
      clear q0 q1 q2
      obtain ⟨cc4, _⟩ := keepAt (B3.trans (B4.mono Z3)) (Nat.lt_succ_self _)
      have q0 := cc4 0
      have q1 := cc4 1
      have q2 := cc4 2
      simp at q0 q1 q2
      clear cc4
      go_wp2
      go_loopw [55] (fun i wr => ∃ (k : Nat) (L : List Int), k ≤ l.length ∧ i = .int .i64 k ∧ MirTo W l L k ∧ Own wr w3.heap.size 3 1 ci (.slice (some ⟨w3.heap.size, 0, none⟩) l.length l.length) L ∧ Bx wr (w3.heap.size + 1) (w3.heap.size) l.length W H ∧ Below w3.heap.size w3 wr) (fun i _ => l.length - (intOf i).toNat)
      case atStart => exact ⟨0, List.replicate l.length 0, Nat.zero_le _, rfl, ⟨by simp, fun v h => absurd h (Nat.not_lt_zero _)⟩, own4, bx4, B4⟩
      case round =>
        obtain ⟨k, L, hk, rfl, hmir, hown, hbx, hB⟩ := hrel
        clear own4 bx4 B4 zh4 zb4 q0 q1 q2
        have Br := B3.trans (hB.mono Z3)
        have Hr := hw0.trans (Br.mono (Nat.le_succ _))
        obtain ⟨cc, _⟩ := keepAt Br (Nat.lt_succ_self _)
        have q0 := cc 0
        simp at q0
        clear cc
        have hbx' := hbx
        obtain ⟨p0, p1, p2⟩ := hbx
        by_cases hlt : k < l.length
        · have hs' := hs
          obtain ⟨b, off, rfl, hbB, hc1⟩ := (hs.keep Hr (Nat.le_refl _)).atI hlt
          obtain ⟨z, hz⟩ : ∃ z, l[k] = z := ⟨_, rfl⟩
          rw [hz] at hc1
          have hlen := HLEN.out
          obtain ⟨j, hj⟩ : ∃ j : Nat, ov W k = j := ⟨(ov W k).toNat, (Int.toNat_of_nonneg (ov_bd (H := H) hW1 (by omega) (by omega)).1).symm⟩
          have hjn : j < l.length := by have := (ov_bd (H := H) hW1 (show (0 : Int) ≤ k by omega) (by omega)).2.1; omega
          have hmir' := hmir.step hW1 hlen hlt hj hz
          have k5 := fun W' h => over_any W k w.heap.size W' hW1 hW8 (by omega) (by omega) j hj h
          obtain ⟨cj, fj⟩ := own_at1 hmir.1 hown (k := j) hjn
          have HM1 := Lib.hid hmir.1
          have HM2 := Lib.hid hmir'
          have KO := Lib.hid k5
          clear hlen hj hz hmir hmir' k5
          go_wp2
          go_region_with (go_at_call 42; refine (KO.out _ (by simp [q0])).mono ?_; rintro e w5 ⟨rfl, rfl⟩)
          all_goals
            go_wp2
            go_roundw
            case' rel => exact ⟨k + 1, L.set j z, by omega, by go_num, HM2.out, own_set1 (w := wr.drewN 2) HM1.out (hown.drewN 2) j z, (hbx'.drewN 2).set (by simp) _, hB.drew.drew.setCell (by simp) _⟩
            case' measure => simp [intOf]; omega
        · obtain rfl : k = l.length := by omega
          obtain ⟨hgood, b0, b1, hlen2, hmem⟩ := HMT.out L hmir
          have k6 := fun w' h => HMM.out L (w3.heap.size) w' h hgood b0 (by rw [hmir.1]; exact b1)
          simp only [hmir.1] at k6
          generalize mv W H L (ov W a % W) (ov W a / W) = m2 at k6 hlen2 hmem
          simp only [SomeMoves, hlen2] at k6
          have k7 := fun f W' h0 h1 h => over_any W f w.heap.size W' hW1 hW8 h0 h1 (ov W f) rfl h
          have hsl := own_tail hown
          rw [show Sl wr wr.heap.size 1 ci (some ⟨w3.heap.size, 0, none⟩) L ↔ Sl wr wr.heap.size 1 ci (some ⟨w3.heap.size, 0, none⟩) L from Iff.rfl] at hsl
          have K6 := Lib.hid k6
          have K7 := Lib.hid k7
          have HMEM := Lib.hid hmem
          have HL2 := Lib.hid hlen2
          have zr : w3.heap.size ≤ wr.heap.size := hB.size
          clear k6 k7 hmem hlen2 hmir hown hbx' hlt
          go_upto_region 14 with fail
          go_cut [13, 8] from 68 to 75 (fun s13 s8 wx => ∃ A6 c6, s13 = .slice A6 m.length c6 ∧ s8 = .int .i64 0 ∧ Sl wx wx.heap.size 3 ce A6 m2 ∧ Below w3.heap.size w3 wx)
          case first =>
            go_region_with (first
              | (go_at_call 42; refine (K7.out a _ ha0 (by omega) (by simp [q0])).mono ?_; rintro e w5 ⟨rfl, rfl⟩)
              | (go_at_call 39; refine (K6.out _ (by first | exact hsl | exact hsl.keep (below_drewN (Below.refl _ _) _) (Nat.le_refl _) | exact hsl.keep (Below.refl _ _).drew.drew (Nat.le_refl _))).mono ?_; rintro e w6 ⟨A6, c6, rfl, own6, hb6⟩))
            all_goals
              have B6 : Below w3.heap.size w3 w6 := by first | exact (below_drewN hB _).trans (hb6.mono zr) | exact hB.drew.drew.trans (hb6.mono zr)
              go_wp2_with fail
              go_meet
              exact ⟨A6, c6, rfl, rfl, own6.sl.2, B6⟩
          case rest =>
            obtain ⟨A6, c6, rfl, rfl, sl6, B6⟩ := hcut
            have Z6 : w3.heap.size ≤ wc.heap.size := B6.size
            have z6 : w.heap.size < wc.heap.size := by omega
            have H6 := B3.trans (B6.mono Z3)
            clear p0 p1 p2 q0 hsl
            obtain ⟨cc6, _⟩ := keepAt H6 (Nat.lt_succ_self _)
            have q0 := cc6 0
            simp at q0
            clear cc6 hB Br Hr zr
            go_wp2
            go_loopw [87] (fun i wr => ∃ k : Nat, k ≤ m.length ∧ i = .int .i64 k ∧ Below wc.heap.size wc wr) (fun i _ => m.length - (intOf i).toNat)
            case' atStart => exact ⟨0, Nat.zero_le _, rfl, Below.refl _ _⟩
            case' round =>
              obtain ⟨k, hk, rfl, hB⟩ := hrel
              have zr : wc.heap.size ≤ wr.heap.size := hB.size
              have zr1 : w.heap.size < wr.heap.size := by omega
              obtain ⟨cc, _⟩ := keepAt (H6.trans (hB.mono (by omega))) (Nat.lt_succ_self _)
              have q0' := cc 0
              simp at q0'
              clear cc q0
              by_cases hlt : k < m.length
              · obtain ⟨b, off, f, t, co, rfl, hbB, hx, x1, x2, x3⟩ := (sl3.keep (B6.trans (hB.mono Z6)) (Nat.le_refl _)).atE hlt
                obtain ⟨⟨f0, f1, t0, t1⟩, hback⟩ := HMEM.out f t co (by rw [← hx]; exact List.getElem_mem hlt)
                have k9 := fun w' hl => contains_edge A6 c6 m2 (ov W f) (ov W t) co w' hl (by rw [HL2.out]; omega)
                rw [decide_eq_true hback] at k9
                simp only [HL2.out] at k9
                have K9 := Lib.hid k9
                have hBx := hB.alloc zr (.cells #[.int .i64 f, .int .i64 t, .int .i64 co] 60)
                have slx := (sl6.keep hBx (Nat.le_refl _)).more (show wc.heap.size ≤ (wr.alloc (.cells #[.int .i64 f, .int .i64 t, .int .i64 co] 60)).heap.size by simp; omega)
                have q0x : (wr.alloc (.cells #[.int .i64 f, .int .i64 t, .int .i64 co] 60)).cell? ⟨w.heap.size, 0, none⟩ = some (.int .i64 W) := by rw [World.cell?_alloc_past _ _ _ zr1]; exact q0'
                have KX := Lib.hid q0x
                clear k9 hback hx q0x
                go_wp2
                go_region_held3 (fun w' => w'.cell? ⟨wr.heap.size, 0, none⟩ = some (.int .i64 f) ∧ w'.cell? ⟨wr.heap.size, 1, none⟩ = some (.int .i64 t) ∧ w'.cell? ⟨wr.heap.size, 2, none⟩ = some (.int .i64 co))
                  (first
                    | go_keep
                    | (go_split_ands
                       refine ⟨?_, ?_, ?_⟩
                       · (rw [cE]; assumption)
                       · (rw [cE]; assumption)
                       · (rw [cE]; assumption)))
                  (first
                    | (go_at_call 42; refine (K7.out _ _ (by omega) (by omega) (by exact KX.out)).mono ?_; rintro e w7 ⟨rfl, rfl⟩)
                    | (go_at_call 41; refine (K9.out _ (by first | exact slx | exact slx.keep (Below.refl _ _).drew.drew.drew (Nat.le_refl _))).mono ?_; rintro e w8 ⟨rfl, hb8⟩; obtain ⟨cE, _⟩ := keepAt hb8 (b := wr.heap.size) (by simp)))
                all_goals
                  have B8 : Below wc.heap.size wc w8 := by first | exact (below_drewN hBx _).trans (hb8.mono (by simp; omega)) | exact hBx.drew.drew.drew.trans (hb8.mono (by simp; omega))
                  clear hb8
                  go_wp2
                  go_roundw
                  case' rel => exact ⟨k + 1, by omega, by go_num, B8⟩
                  case' measure => simp [intOf]; omega
              · obtain rfl : k = m.length := by omega
                clear sl3 hs sl6
                go_wp2
                go_ret
                exact ⟨rfl, hw0.trans ((H6.trans (hB.mono (by omega))).mono (Nat.le_succ _))⟩

    · obtain ⟨w4, hw4⟩ : ∃ w4, w4 = ((w3.alloc (.cells #[.int .i64 W, .int .i64 H, .slice (some ⟨w3.heap.size + 1, 0, none⟩) l.length l.length] 70)).alloc (.cells (madeCells #[.int .i64 0] l.length) 3)).drew := ⟨_, rfl⟩
      have B4 : Below w3.heap.size w3 w4 := by rw [hw4]; exact (((Below.refl _ _).alloc (Nat.le_refl _) _).alloc (by simp) _).drew
      have own4 : Own w4 w3.heap.size 3 1 ci (.slice (some ⟨w3.heap.size + 1, 0, none⟩) l.length l.length) (List.replicate l.length 0) := by rw [hw4]; exact own_made l.length w3.heap.size (w3.alloc (.cells #[.int .i64 W, .int .i64 H, .slice (some ⟨w3.heap.size + 1, 0, none⟩) l.length l.length] 70)) (by simp) hl64 (by simp)
      have bx4 : Bx w4 (w3.heap.size) (w3.heap.size + 1) l.length W H := by rw [hw4]; exact ⟨by simp, by simp, by simp⟩
      have zz4 : (w3.heap.size + 1) < w4.heap.size ∧ (w3.heap.size) < w4.heap.size := by rw [hw4]; simp; try omega
      obtain ⟨zh4, zb4⟩ := zz4
      rw [← hw4]
      clear hw4
      clear q0 q1 q2
      obtain ⟨cc4, _⟩ := keepAt (B3.trans (B4.mono Z3)) (Nat.lt_succ_self _)
      have q0 := cc4 0
      have q1 := cc4 1
      have q2 := cc4 2
      simp at q0 q1 q2
      clear cc4
      go_wp2
      go_loopw [55] (fun i wr => ∃ (k : Nat) (L : List Int), k ≤ l.length ∧ i = .int .i64 k ∧ MirTo W l L k ∧ Own wr w3.heap.size 3 1 ci (.slice (some ⟨w3.heap.size + 1, 0, none⟩) l.length l.length) L ∧ Bx wr (w3.heap.size) (w3.heap.size + 1) l.length W H ∧ Below w3.heap.size w3 wr) (fun i _ => l.length - (intOf i).toNat)
      case atStart => exact ⟨0, List.replicate l.length 0, Nat.zero_le _, rfl, ⟨by simp, fun v h => absurd h (Nat.not_lt_zero _)⟩, own4, bx4, B4⟩
      case round =>
        obtain ⟨k, L, hk, rfl, hmir, hown, hbx, hB⟩ := hrel
        clear own4 bx4 B4 zh4 zb4 q0 q1 q2
        have Br := B3.trans (hB.mono Z3)
        have Hr := hw0.trans (Br.mono (Nat.le_succ _))
        obtain ⟨cc, _⟩ := keepAt Br (Nat.lt_succ_self _)
        have q0 := cc 0
        simp at q0
        clear cc
        have hbx' := hbx
        obtain ⟨p0, p1, p2⟩ := hbx
        by_cases hlt : k < l.length
        · have hs' := hs
          obtain ⟨b, off, rfl, hbB, hc1⟩ := (hs.keep Hr (Nat.le_refl _)).atI hlt
          obtain ⟨z, hz⟩ : ∃ z, l[k] = z := ⟨_, rfl⟩
          rw [hz] at hc1
          have hlen := HLEN.out
          obtain ⟨j, hj⟩ : ∃ j : Nat, ov W k = j := ⟨(ov W k).toNat, (Int.toNat_of_nonneg (ov_bd (H := H) hW1 (by omega) (by omega)).1).symm⟩
          have hjn : j < l.length := by have := (ov_bd (H := H) hW1 (show (0 : Int) ≤ k by omega) (by omega)).2.1; omega
          have hmir' := hmir.step hW1 hlen hlt hj hz
          have k5 := fun W' h => over_any W k w.heap.size W' hW1 hW8 (by omega) (by omega) j hj h
          obtain ⟨cj, fj⟩ := own_at1 hmir.1 hown (k := j) hjn
          have HM1 := Lib.hid hmir.1
          have HM2 := Lib.hid hmir'
          have KO := Lib.hid k5
          clear hlen hj hz hmir hmir' k5
          go_wp2
          go_region_with (go_at_call 42; refine (KO.out _ (by simp [q0])).mono ?_; rintro e w5 ⟨rfl, rfl⟩)
          all_goals
            go_wp2
            go_roundw
            case' rel => exact ⟨k + 1, L.set j z, by omega, by go_num, HM2.out, own_set1 (w := wr.drewN 2) HM1.out (hown.drewN 2) j z, (hbx'.drewN 2).set (by simp) _, hB.drew.drew.setCell (by simp) _⟩
            case' measure => simp [intOf]; omega
        · obtain rfl : k = l.length := by omega
          obtain ⟨hgood, b0, b1, hlen2, hmem⟩ := HMT.out L hmir
          have k6 := fun w' h => HMM.out L (w3.heap.size + 1) w' h hgood b0 (by rw [hmir.1]; exact b1)
          simp only [hmir.1] at k6
          generalize mv W H L (ov W a % W) (ov W a / W) = m2 at k6 hlen2 hmem
          simp only [SomeMoves, hlen2] at k6
          have k7 := fun f W' h0 h1 h => over_any W f w.heap.size W' hW1 hW8 h0 h1 (ov W f) rfl h
          have hsl := own_tail hown
          rw [show Sl wr wr.heap.size 1 ci (some ⟨w3.heap.size + 1, 0, none⟩) L ↔ Sl wr wr.heap.size 1 ci (some ⟨w3.heap.size + 1, 0, none⟩) L from Iff.rfl] at hsl
          have K6 := Lib.hid k6
          have K7 := Lib.hid k7
          have HMEM := Lib.hid hmem
          have HL2 := Lib.hid hlen2
          have zr : w3.heap.size ≤ wr.heap.size := hB.size
          clear k6 k7 hmem hlen2 hmir hown hbx' hlt
          go_upto_region 14 with fail
          go_cut [13, 8] from 68 to 75 (fun s13 s8 wx => ∃ A6 c6, s13 = .slice A6 m.length c6 ∧ s8 = .int .i64 0 ∧ Sl wx wx.heap.size 3 ce A6 m2 ∧ Below w3.heap.size w3 wx)
          case first =>
            go_region_with (first
              | (go_at_call 42; refine (K7.out a _ ha0 (by omega) (by simp [q0])).mono ?_; rintro e w5 ⟨rfl, rfl⟩)
              | (go_at_call 39; refine (K6.out _ (by first | exact hsl | exact hsl.keep (below_drewN (Below.refl _ _) _) (Nat.le_refl _) | exact hsl.keep (Below.refl _ _).drew.drew (Nat.le_refl _))).mono ?_; rintro e w6 ⟨A6, c6, rfl, own6, hb6⟩))
            all_goals
              have B6 : Below w3.heap.size w3 w6 := by first | exact (below_drewN hB _).trans (hb6.mono zr) | exact hB.drew.drew.trans (hb6.mono zr)
              go_wp2_with fail
              go_meet
              exact ⟨A6, c6, rfl, rfl, own6.sl.2, B6⟩
          case rest =>
            obtain ⟨A6, c6, rfl, rfl, sl6, B6⟩ := hcut
            have Z6 : w3.heap.size ≤ wc.heap.size := B6.size
            have z6 : w.heap.size < wc.heap.size := by omega
            have H6 := B3.trans (B6.mono Z3)
            clear p0 p1 p2 q0 hsl
            obtain ⟨cc6, _⟩ := keepAt H6 (Nat.lt_succ_self _)
            have q0 := cc6 0
            simp at q0
            clear cc6 hB Br Hr zr
            go_wp2
            go_loopw [87] (fun i wr => ∃ k : Nat, k ≤ m.length ∧ i = .int .i64 k ∧ Below wc.heap.size wc wr) (fun i _ => m.length - (intOf i).toNat)
            case' atStart => exact ⟨0, Nat.zero_le _, rfl, Below.refl _ _⟩
            case' round =>
              obtain ⟨k, hk, rfl, hB⟩ := hrel
              have zr : wc.heap.size ≤ wr.heap.size := hB.size
              have zr1 : w.heap.size < wr.heap.size := by omega
              obtain ⟨cc, _⟩ := keepAt (H6.trans (hB.mono (by omega))) (Nat.lt_succ_self _)
              have q0' := cc 0
              simp at q0'
              clear cc q0
              by_cases hlt : k < m.length
              · obtain ⟨b, off, f, t, co, rfl, hbB, hx, x1, x2, x3⟩ := (sl3.keep (B6.trans (hB.mono Z6)) (Nat.le_refl _)).atE hlt
                obtain ⟨⟨f0, f1, t0, t1⟩, hback⟩ := HMEM.out f t co (by rw [← hx]; exact List.getElem_mem hlt)
                have k9 := fun w' hl => contains_edge A6 c6 m2 (ov W f) (ov W t) co w' hl (by rw [HL2.out]; omega)
                rw [decide_eq_true hback] at k9
                simp only [HL2.out] at k9
                have K9 := Lib.hid k9
                have hBx := hB.alloc zr (.cells #[.int .i64 f, .int .i64 t, .int .i64 co] 60)
                have slx := (sl6.keep hBx (Nat.le_refl _)).more (show wc.heap.size ≤ (wr.alloc (.cells #[.int .i64 f, .int .i64 t, .int .i64 co] 60)).heap.size by simp; omega)
                have q0x : (wr.alloc (.cells #[.int .i64 f, .int .i64 t, .int .i64 co] 60)).cell? ⟨w.heap.size, 0, none⟩ = some (.int .i64 W) := by rw [World.cell?_alloc_past _ _ _ zr1]; exact q0'
                have KX := Lib.hid q0x
                clear k9 hback hx q0x
                go_wp2
                go_region_held3 (fun w' => w'.cell? ⟨wr.heap.size, 0, none⟩ = some (.int .i64 f) ∧ w'.cell? ⟨wr.heap.size, 1, none⟩ = some (.int .i64 t) ∧ w'.cell? ⟨wr.heap.size, 2, none⟩ = some (.int .i64 co))
                  (first
                    | go_keep
                    | (go_split_ands
                       refine ⟨?_, ?_, ?_⟩
                       · (rw [cE]; assumption)
                       · (rw [cE]; assumption)
                       · (rw [cE]; assumption)))
                  (first
                    | (go_at_call 42; refine (K7.out _ _ (by omega) (by omega) (by exact KX.out)).mono ?_; rintro e w7 ⟨rfl, rfl⟩)
                    | (go_at_call 41; refine (K9.out _ (by first | exact slx | exact slx.keep (Below.refl _ _).drew.drew.drew (Nat.le_refl _))).mono ?_; rintro e w8 ⟨rfl, hb8⟩; obtain ⟨cE, _⟩ := keepAt hb8 (b := wr.heap.size) (by simp)))
                all_goals
                  have B8 : Below wc.heap.size wc w8 := by first | exact (below_drewN hBx _).trans (hb8.mono (by simp; omega)) | exact hBx.drew.drew.drew.trans (hb8.mono (by simp; omega))
                  clear hb8
                  go_wp2
                  go_roundw
                  case' rel => exact ⟨k + 1, by omega, by go_num, B8⟩
                  case' measure => simp [intOf]; omega
              · obtain rfl : k = m.length := by omega
                clear sl3 hs sl6
                go_wp2
                go_ret
                exact ⟨rfl, hw0.trans ((H6.trans (hB.mono (by omega))).mono (Nat.le_succ _))⟩

  · have k3 := fun w' h => moves_no W H a A c l w' h hll hg
    have K3 := Lib.hid k3
    clear k3 hg
    go_enter Try.func13, Try.ntmps13
    go_wp2_with fail
    refine (KEY0.out _ _ (sl_new' (by decide) _ #[.int .i64 1, .int .i64 2] _ _ (by simp) rfl)).mono ?_
    rintro e w1 ⟨A1, c1, rfl, own1, hb1⟩
    have B1 : Below (w.heap.size + 1) (w.alloc (.cells #[.int .i64 W, .int .i64 H, .slice A l.length c] 70)) w1 := ((Below.refl _ _).alloc (by simp) _).trans (hb1.mono (by simp))
    have Z1 : w.heap.size + 1 ≤ w1.heap.size := by have := hb1.size; simp at this; omega
    have z1 : w.heap.size < w1.heap.size := by omega
    clear hb1
    go_wp2_with fail
    refine (KEY1.out _ _ _ _ _ _ (own1.alloc _).sl.2 (sl_new' (by decide) _ #[.int .i64 1, .int .i64 0, .int .i64 15] _ _ rfl rfl)).mono ?_
    rintro e w2 ⟨rfl, n2, rfl⟩
    have B2 := below_drewN (B1.alloc Z1 (.cells #[.int .i64 1, .int .i64 0, .int .i64 15] 60)) n2
    have Z2 : w.heap.size + 1 ≤ (w1.alloc (.cells #[.int .i64 1, .int .i64 0, .int .i64 15] 60)).heap.size := by simp; omega
    have z2 : w.heap.size < (w1.alloc (.cells #[.int .i64 1, .int .i64 0, .int .i64 15] 60)).heap.size := by simp; omega
    generalize (w1.alloc (.cells #[.int .i64 1, .int .i64 0, .int .i64 15] 60)) = w2 at B2 Z2 z2 ⊢
    have H2 : Below w.heap.size w (w2.drewN n2) := hw0.trans (B2.mono (Nat.le_succ _))
    obtain ⟨cc2, ff2⟩ := keepAt B2 (Nat.lt_succ_self _)
    clear own1 B1 Z1 z1
    go_wp2_with fail
    refine (K3.out _ ((hs.keep H2 (Nat.le_refl _)).more (by simp; omega))).mono ?_
    rintro e w3 ⟨x, hx, rfl, hb3⟩
    have hx1 : (x != 0) = true := by rw [bne_iff_ne]; exact hx
    have H3 : Below w.heap.size w w3 := H2.trans (hb3.mono (by simp; omega))
    clear hb3 cc2 ff2 B2 H2 z2 Z2 hx hs
    go_wp2
    go_ret
    exact ⟨rfl, H3⟩

theorem own : ownKnob Try.prog.godebug = none := by kernel_rfl
theorem laidOut : laidOutB Try.prog = true := by kernel_rfl

set_option maxRecDepth 100000 in
theorem lifted (os : Os) (started : os.Started) (H : Type) (enc : TypeId × Value → H) :
    ReturnsInHanded {} Try.checked os 13 .any (Rows.gridTurnsSpec.pre6 enc Try.prog Try.f13 Rows.gridTurnsRow.domain false) (Rows.gridTurnsSpec.post enc Try.prog Try.f13 false true false false) := by
  refine returnsInHanded_of_change (C := Try.checked) own started (by kernel_rfl) Try.func13
    (ChangeSpec.witness6 (enc := enc) (C := Try.checked) false ⟨#[], #[.agg #[.int .i64 0, .int .i64 0, .slice none 0 0], .int .i64 0], []⟩ 8 (by kernel_rfl) (by kernel_rfl) (by kernel_rfl) (by kernel_rfl)) ?_
  intro W base args ds gs before hval0 hW hcnd _
  have hval : ∀ (j : Nat) t v, Try.f13.params[j]? = some t → args[j]? = some v → Value.okWide Try.prog W .any base t v := hval0
  have hW' := hW
  obtain ⟨p, q, hA0, hV, rfl, hfz, hnd⟩ := hW
  have hA : DataW.TrodAll enc Try.prog W 0 (fun _ => true) true Try.f13.params.toList args.toList ds p := hA0
  rw [Try.params13] at hA hval
  obtain ⟨v0, vs0, d0, ds0, p0, q0, hargs, rfl, rfl, h0, r0⟩ := trodAll_cons hA
  obtain ⟨v1, vs1, d1, ds1, p1, q1, rfl, rfl, rfl, h1, r1⟩ := trodAll_cons r0
  obtain ⟨rfl, rfl, rfl⟩ := trodAll_nil r1
  obtain rfl : args = #[v0, v1] := by cases args; simp_all
  obtain ⟨rfl, rfl⟩ := trodVars_none hV
  obtain ⟨W0, H0, A0, c0, l0, dd0, rfl, hW0, hH0, hG0, hb0, rfl, hd0⟩ := open_grid Try.underlying70 (by kernel_rfl) (by kernel_rfl) Try.underlying3 Try.underlying3 Try.underlying32 Try.underlying3 (by kernel_rfl) (hval 0 70 v0 rfl rfl) h0
  obtain ⟨a1, rfl, rfl, rfl, wa1⟩ := open_int Try.underlying3 (hval 1 3 v1 rfl rfl) h1
  refine (walk W W0 H0 A0 c0 l0 hW0 hH0 hG0 a1 (wf_bd wa1)).mono fun e W' ⟨he, hB⟩ => ?_
  subst he
  exact ⟨_, rfl, post_of_law laidOut rfl Try.underlying4 rfl (by intro t ht; rw [Try.params13] at ht; simp at ht; rcases ht with rfl | rfl <;> exact ⟨by kernel_rfl, of_decide_eq_true (by kernel_rfl)⟩) hW' rfl hB⟩

theorem holds : Rows.GridTurnsSaid :=
  OpenClaim.holds_of_wide 13 Try.f13 rfl rfl rfl rfl rfl rfl rfl ⟨rfl, rfl, rfl, rfl, rfl⟩ rfl rfl rfl rfl rfl (by kernel_rfl) Try.func13 (by kernel_rfl)
    (of_decide_eq_true (by kernel_rfl)) (by unfold Func.isWrapper; first | (rw [if_pos (by decide +kernel)]; kernel_rfl) | (rw [if_neg (by decide +kernel)]; exact ⟨rfl, rfl⟩))
    (fun os started H enc _ => lifted os started H enc)
#print axioms holds
end Go.Proofs.Ythlhlglmkcbgaaa.GridTurnsLaw
