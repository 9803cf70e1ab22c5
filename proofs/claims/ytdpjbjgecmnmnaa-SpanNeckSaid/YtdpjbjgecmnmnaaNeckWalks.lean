/- The walk of span.Neck. -/
import Derived.Test.YtdpjbjgecmnmnaaNeckTree
import Derived.Test.YtdpjbjgecmnmnaaSpanUse
import Derived.BigQuiet
namespace Go.Proofs.Ytdpjbjgecmnmnaa.Span
open Go.RowKit Go.Proofs.Ytdpjbjgecmnmnaa NetLaw HeapLaw UnionLaw SpanLaw NeckLaw Go.Proofs.Ytdpjbjgecmnmnaa.Net Go.Proofs.Ytdpjbjgecmnmnaa.Heap Go.Proofs.Ytdpjbjgecmnmnaa.Union Go.Proofs.Ytdpjbjgecmnmnaa.Refs Go.Proofs.Ytdpjbjgecmnmnaa.Std
set_option linter.unusedSimpArgs false
set_option linter.unusedVariables false
def NeckFact (N : Int) (l : List E) (a b x er : Int) : Prop := (er ≠ 0 ∧ x = 0 ∧ (NetLaw.Good N l → 0 ≤ a ∧ a < N → 0 ≤ b ∧ b < N → a ≠ b → ¬ cn ((List.range l.length).map (es l)) a.toNat b.toNat)) ∨ (er = 0 ∧ NetLaw.Good N l ∧ 0 ≤ a ∧ a < N ∧ 0 ≤ b ∧ b < N ∧ Bot l a.toNat b.toNat x)
def NeckAny (N : Int) (l : List E) (a b : Int) (w : World) (e : Ending) (w' : World) : Prop := ∃ x er : Int, e = .returned (.tuple #[.int .i64 x, .int .i64 er]) ∧ Below w.heap.size w w' ∧ Hid (NeckFact N l a b x er)
set_option maxRecDepth 100000 in
set_option maxHeartbeats 4000000 in
theorem neck_any (N : Int) (A : Option Addr) (c : Nat) (l : List E) (a b : Int) (w : World) (hl : Sl w w.heap.size 3 ce A l) (hlen : l.length ≤ 9223372036854775807) :
    Calls Try.prog 47 #[.agg #[.int .i64 N, .slice A l.length c], .int .i64 a, .int .i64 b] w fun e w' => NeckAny N l a b w e w' := by
  obtain ⟨W0, hW0⟩ : ∃ W0 : World, W0 = ((w.alloc (.cells #[.int .i64 N, .slice A l.length c] 24)).alloc (.cells #[.int .i64 a] 3)).alloc (.cells #[.int .i64 b] 3) := ⟨_, rfl⟩
  have bN : W0.heap[w.heap.size]? = some (.cells #[.int .i64 N, .slice A l.length c] 24 (0, 0)) := by rw [hW0]; exact blk_alloc (blk_alloc (heap_alloc_new w _) _) _
  have bA : W0.heap[w.heap.size + 1]? = some (.cells #[.int .i64 a] 3 (0, 0)) := by
    rw [hW0]
    have h := blk_alloc (heap_alloc_new (w.alloc (.cells #[.int .i64 N, .slice A l.length c] 24)) (.cells #[.int .i64 a] 3)) (.cells #[.int .i64 b] 3)
    simpa using h
  have bB : W0.heap[w.heap.size + 1 + 1]? = some (.cells #[.int .i64 b] 3 (0, 0)) := by
    rw [hW0]
    have h := heap_alloc_new ((w.alloc (.cells #[.int .i64 N, .slice A l.length c] 24)).alloc (.cells #[.int .i64 a] 3)) (.cells #[.int .i64 b] 3)
    simpa using h
  have H0 : Below w.heap.size w W0 := by rw [hW0]; exact (((Below.refl _ _).alloc (Nat.le_refl _) _).alloc (by simp) _).alloc (by first | (simp; done) | (simp; omega)) _
  have kc := check_any N A c l W0 ((hl.keep H0 (Nat.le_refl _)).more H0.size) hlen
  have KC := Lib.hid kc
  have BN := Lib.hid bN
  have BA := Lib.hid bA
  have BB := Lib.hid bB
  have HW0 := Lib.hid hW0
  have HL := Lib.hid hl
  have z0 : w.heap.size + 2 < W0.heap.size := by rw [hW0]; simp
  clear kc bN bA bB hl
  by_cases hx : chk N l = 0
  · rw [hx] at KC
    have hg := chk_zero.1 hx
    have hN1 := hg.lo
    have hN2 := hg.hi
    obtain ⟨n, rfl⟩ := Int.eq_ofNat_of_zero_le (show 0 ≤ N by omega)
    have HG := Lib.hid hg
    clear hg hx
    by_cases hr : (0 ≤ a ∧ a < n) ∧ (0 ≤ b ∧ b < n) ∧ a ≠ b
    · obtain ⟨⟨a0, a1⟩, ⟨b0, b1⟩, hab⟩ := hr
      obtain ⟨a, rfl⟩ := Int.eq_ofNat_of_zero_le a0
      obtain ⟨b, rfl⟩ := Int.eq_ofNat_of_zero_le b0
      have hab' : ¬ ((a : Int) = (b : Int)) := hab
      clear hab hW0
      go_enter Try.func47, Try.ntmps47
      go_wp2_with fail
      rw [← HW0.out]
      refine KC.out.mono ?_
      rintro e w1 ⟨rfl, hb1⟩
      have H1 := H0.trans (hb1.mono H0.size)
      have cN := blk_below BN.out hb1 (by omega)
      have cA := blk_below BA.out hb1 (by omega)
      have cB := blk_below BB.out hb1 (by omega)
      have n0 := blk_cell cN 0
      have n1 := blk_cell cN 1
      have a0 := blk_cell cA 0
      have b0 := blk_cell cB 0
      simp only [List.getElem?_toArray, List.getElem?_cons_zero, List.getElem?_cons_succ] at n0 n1 a0 b0
      have CN := Lib.hid cN
      have CA := Lib.hid cA
      have CB := Lib.hid cB
      have HB1 := Lib.hid H1
      have zz := hb1.size
      have zn : w.heap.size < w1.heap.size := by omega
      have zn2 : w.heap.size < w1.heap.size + 1 := by omega
      have hpa : a < n := by omega
      have hpb : b < n := by omega
      have hne : a ≠ b := by omega
      have an : ¬ (n ≤ a) := by omega
      have da : decide ((a : Int) < 0) = false := decide_eq_false (by omega)
      have db : decide ((b : Int) < 0) = false := decide_eq_false (by omega)
      have da2 : ¬ ((a : Int) < 0) := by omega
      have db2 : ¬ ((b : Int) < 0) := by omega
      have eab : ((a : Int) == (b : Int)) = false := by rw [beq_eq_false_iff_ne]; exact hab'
      have bn : ¬ (n ≤ b) := by omega
      clear cN cA cB hb1 H1 HW0 KC BN BA BB
      go_wp2_with fail
      obtain ⟨W2, hW2⟩ : ∃ W2 : World, W2 = ((w1.alloc (.cells #[.int .i64 0] 3)).alloc (.cells #[.int .i64 5] 26)) := ⟨_, rfl⟩
      have nb2 : Nb W2 n A c l a b (w.heap.size + 1) (w.heap.size + 1 + 1) w.heap.size w1.heap.size (w1.heap.size + 1) := by
        rw [hW2]
        refine ⟨blk_alloc (blk_alloc CA.out _) _, blk_alloc (blk_alloc CB.out _) _, blk_alloc (blk_alloc CN.out _) _, blk_alloc (heap_alloc_new w1 _) _, ?_⟩
        have h := heap_alloc_new (w1.alloc (.cells #[.int .i64 0] 3)) (.cells #[.int .i64 5] 26)
        simpa using h
      have H2 : Below w.heap.size w W2 := by
        rw [hW2]
        exact (HB1.out.alloc HB1.out.size _).alloc (by have := HB1.out.size; simp; omega) _
      have kt := tree_neck n A c l a b (w.heap.size + 1) (w.heap.size + 1 + 1) w.heap.size w1.heap.size (w1.heap.size + 1) W2 ((HL.out.keep H2 (Nat.le_refl _)).more H2.size) HG.out hpa hpb hne nb2
      have z2 : w1.heap.size + 1 < W2.heap.size := by rw [hW2]; simp
      have HT := Lib.hid kt
      have NB2 := Lib.hid nb2
      have HH2 := Lib.hid H2
      rw [← hW2]
      clear kt nb2 H2 hW2 n0 n1 a0 b0
      refine HT.out.mono ?_
      rintro e w3 ⟨u, rfl, ⟨hb3, hnc⟩ | ⟨w4, x, hb4, rfl, hbot⟩⟩
      · have nb3 := NB2.out.below hb3
        have c9 := blk_cell nb3.c9 0
        have c10 := blk_cell nb3.c10 0
        simp only [List.getElem?_toArray, List.getElem?_cons_zero, List.getElem?_cons_succ] at c9 c10
        have H3 := HH2.out.trans (hb3.mono HH2.out.size)
        have HNC := Lib.hid hnc
        clear hb3 nb3 hnc
        go_wp2
        go_quiet (fail)
        go_wp2
        go_ret2
        exact ⟨0, 5, rfl, below_drewN H3 _, Lib.hid (.inl ⟨by decide, rfl, fun _ _ _ _ => HNC.out⟩)⟩
      · have nb4 := NB2.out.below hb4
        have d9 := blk_set nb4.c9 0 (.int .i64 x)
        have h910 : (⟨w1.heap.size + 1, 0, none⟩ : Addr).block ≠ w1.heap.size := by simp
        have d10 := blk_set (g := w1.heap.size + 1) (w := w4.setCell ⟨w1.heap.size, 0, none⟩ (.int .i64 x)) (cs := #[.int .i64 5]) (t := 26) ((Below.heap_setCell _ _ _ _ (by simp)).trans nb4.c10) 0 (.int .i64 0)
        have d9' := (Below.heap_setCell (w4.setCell ⟨w1.heap.size, 0, none⟩ (.int .i64 x)) ⟨w1.heap.size + 1, 0, none⟩ (.int .i64 0) w1.heap.size (by simp)).trans d9
        have c9 := blk_cell d9' 0
        have c10 := blk_cell d10 0
        simp at c9 c10
        have H4 := HH2.out.trans (hb4.mono HH2.out.size)
        have H5 : Below w.heap.size w ((w4.setCell ⟨w1.heap.size, 0, none⟩ (.int .i64 x)).setCell ⟨w1.heap.size + 1, 0, none⟩ (.int .i64 0)) := by
          repeat' first | exact H4 | refine Below.setCell ?_ ?_ _
          all_goals first | (dsimp only; omega) | (simp; omega)
        have HBO := Lib.hid hbot
        have HH5 := Lib.hid H5
        clear nb4 d9 d10 d9' H4 hb4 hbot h910 H5
        generalize ((w4.setCell ⟨w1.heap.size, 0, none⟩ (.int .i64 x)).setCell ⟨w1.heap.size + 1, 0, none⟩ (.int .i64 0)) = w5 at *
        go_wp2
        go_quiet (fail)
        go_wp2
        go_ret2
        exact ⟨x, 0, rfl, below_drewN HH5.out _, Lib.hid (.inr ⟨rfl, HG.out, by omega, by omega, by omega, by omega, HBO.out⟩)⟩
    · have hcs : a < 0 ∨ (¬ a < 0 ∧ (n : Int) ≤ a) ∨ (¬ a < 0 ∧ ¬ (n : Int) ≤ a ∧ b < 0) ∨ (¬ a < 0 ∧ ¬ (n : Int) ≤ a ∧ ¬ b < 0 ∧ (n : Int) ≤ b) ∨ (¬ a < 0 ∧ ¬ (n : Int) ≤ a ∧ ¬ b < 0 ∧ ¬ (n : Int) ≤ b ∧ (a == b) = true) := by
        rw [beq_iff_eq]
        omega
      have HRN := Lib.hid hr
      clear hW0 hr
      rcases hcs with h1 | ⟨h1, h2⟩ | ⟨h1, h2, h3⟩ | ⟨h1, h2, h3, h4⟩ | ⟨h1, h2, h3, h4, h5⟩
      all_goals
        go_enter Try.func47, Try.ntmps47
        go_wp2_with fail
        rw [← HW0.out]
        refine KC.out.mono ?_
        rintro e w1 ⟨rfl, hb1⟩
        have H1 := H0.trans (hb1.mono H0.size)
        have n0 := blk_cell (blk_below BN.out hb1 (by omega)) 0
        have a0 := blk_cell (blk_below BA.out hb1 (by omega)) 0
        have b0 := blk_cell (blk_below BB.out hb1 (by omega)) 0
        simp only [List.getElem?_toArray, List.getElem?_cons_zero, List.getElem?_cons_succ] at n0 a0 b0
        clear hb1 HW0 KC BN BA BB
        go_wp2
        go_ret2
        exact ⟨0, 1, rfl, H1, Lib.hid (.inl ⟨by decide, rfl, fun _ ha hb hab => absurd ⟨ha, hb, hab⟩ HRN.out⟩)⟩
  · have hne : (chk N l != 0) = true := by rw [bne_iff_ne]; exact hx
    have hxg : ¬ NetLaw.Good N l := fun h => hx (chk_zero.2 h)
    have hx2 := hx
    generalize chk N l = er at *
    have HX := Lib.hid (And.intro hx2 hxg)
    clear hx hx2 hxg
    clear hW0
    go_enter Try.func47, Try.ntmps47
    go_wp2_with fail
    rw [← HW0.out]
    refine KC.out.mono ?_
    rintro e w1 ⟨rfl, hb1⟩
    have H1 := H0.trans (hb1.mono H0.size)
    clear hb1 HW0 KC BN BA BB
    go_wp2
    go_ret2
    exact ⟨0, er, rfl, H1, Lib.hid (.inl ⟨HX.out.1, rfl, fun hg => absurd hg HX.out.2⟩)⟩
theorem neck_two (W : World) (g : Nat) (h : Sl W W.heap.size 3 ce (some ⟨g, 0, none⟩) [(0, 1, 5)]) :
    Calls Try.prog 47 #[.agg #[.int .i64 2, .slice (some ⟨g, 0, none⟩) 1 1], .int .i64 1, .int .i64 0] W fun e w' => e = .returned (.tuple #[.int .i64 5, .int .i64 0]) ∧ Below W.heap.size W w' := by
  refine (neck_any 2 (some ⟨g, 0, none⟩) 1 [(0, 1, 5)] 1 0 W h (by decide)).mono ?_
  rintro e w' ⟨x, er, rfl, hb, hf⟩
  rcases hf.out with ⟨_, _, h1⟩ | ⟨rfl, _, _, _, _, _, hbot⟩
  · exact absurd (by unfold cn; decide) (h1 good2 (by decide) (by decide) (by decide))
  · have hx : x = 5 := by
      have hco : co [(0, 1, 5)] 0 = 5 := rfl
      rcases Int.lt_trichotomy x 5 with hlt | h5 | hgt
      · have hy := hbot.yes
        have e : (List.range ([(0, 1, 5)] : List E).length).filter (fun j => decide (co [(0, 1, 5)] j ≤ x)) = [] := by
          rw [List.filter_eq_nil_iff]
          intro j hj
          obtain rfl : j = 0 := by simp at hj; exact hj
          rw [hco, decide_eq_true_eq]; omega
        rw [e] at hy
        exact absurd hy (by unfold cn; decide)
      · exact h5
      · have hn := hbot.no
        have e : (List.range ([(0, 1, 5)] : List E).length).filter (fun j => decide (co [(0, 1, 5)] j < x)) = [0] := by
          show (List.range 1).filter _ = [0]
          rw [show List.range 1 = [0] from rfl, List.filter_cons, if_pos (by rw [hco, decide_eq_true_eq]; omega)]
          rfl
        rw [e] at hn
        exact absurd (by unfold cn; decide) hn
    subst hx
    exact ⟨rfl, hb⟩
end Go.Proofs.Ytdpjbjgecmnmnaa.Span
