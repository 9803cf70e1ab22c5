/- For every net and list, of bulk at most 1048576 together: NetOwn answers true (a net that is handed in stays as it is, and what is answered shares nothing with it), and the arguments read as before. -/
import Derived.Test.YtlcgkbkmfelcfaaRows
import Derived.Test.YtlcgkbkmfelcfaaBulk
import Derived.Test.YtlcgkbkmfelcfaaOwnEdge
import Derived.Test.YtlcgkbkmfelcfaaRefs
import Derived.Test.YtlcgkbkmfelcfaaStdCE
import Derived.Test.YtlcgkbkmfelcfaaJohnWalks
import Derived.Deep.RegionHeld3
import Derived.Deep.CutRange
import Derived.BigQuiet
import Derived.JoinedCond
namespace Go.Proofs.Ytlcgkbkmfelcfaa.NetOwnLaw
open Go.ChangeShapes Go.WideShapes Go.ChangeAt Go.RowKit Go.Proofs.Ytlcgkbkmfelcfaa NetLaw Go.Proofs.Ytlcgkbkmfelcfaa.Net Go.Proofs.Ytlcgkbkmfelcfaa.Refs Go.Proofs.Ytlcgkbkmfelcfaa.Std Go.Proofs.Ytlcgkbkmfelcfaa.Room
set_option linter.unusedSimpArgs false
set_option linter.unusedVariables false
abbrev ob (A : Option Addr) : Option Nat := (Value.slice A 0 0).ownBlock
theorem obs (A : Option Addr) (n c : Nat) : (Value.slice A n c).ownBlock = ob A := by cases A <;> rfl
theorem own_nil {α : Type} {w : World} {base : Nat} {e : TypeId} {sz : Nat} {cell : α → Nat → Value} {A : Option Addr} {n c : Nat} {l : List α} (h : Own w base e sz cell (.slice A n c) l) : A = none → n = 0 ∧ c = 0 := by
  obtain ⟨A', c', he, _, hn⟩ := h.form
  injection he with a b d
  rw [a, b, d]
  exact hn
theorem own_cap {α : Type} {w : World} {base : Nat} {e : TypeId} {sz : Nat} {cell : α → Nat → Value} {A : Option Addr} {n c : Nat} {l : List α} (h : Own w base e sz cell (.slice A n c) l) : n ≤ c := by
  obtain ⟨A', c', he, hc, _⟩ := h.form
  injection he with a b d
  omega
theorem sl_pre {α : Type} {w : World} {B sz : Nat} {cell : α → Nat → Value} {A : Option Addr} {l r : List α} (h : Sl w B sz cell A (l ++ r)) : Sl w B sz cell A l := by
  intro hl
  obtain ⟨b, off, hA, hb, hc⟩ := h (by rw [List.length_append]; omega)
  refine ⟨b, off, hA, hb, fun i hi j hj => ?_⟩
  have := hc i (by rw [List.length_append]; omega) j hj
  rw [this, List.getElem_append_left hi]
theorem kp {α : Type} {w w' : World} {b : Nat} {e : TypeId} {sz : Nat} {cell : α → Nat → Value} {A : Option Addr} {n c : Nat} {l : List α} {r : Option Nat} (h : Own w b e sz cell (.slice A n c) l) (hg : w.grownBy w' r) (hr : ∀ g, ob A = some g → r ≠ some g) : Own w' b e sz cell (.slice A n c) l := by
  refine h.kept hg ?_
  rw [obs]
  cases hA : ob A with
  | none => exact .inl rfl
  | some g => exact .inr (fun e => hr g hA e.symm)
theorem turn_own (N : Int) (A : Option Addr) (n c : Nat) (l : List E) (w : World) (hl : Sl w w.heap.size 3 ce A l) (hn : l.length = n) (hlen : n ≤ 1048576) :
    Calls Try.prog 17 #[.agg #[.int .i64 N, .slice A n c]] w fun e w' => ∃ N3 A3 m3 c3 L3 er, e = .returned (.tuple #[.agg #[.int .i64 N3, .slice A3 m3 c3], .int .i64 er]) ∧ L3.length = m3 ∧ Own w' w.heap.size 27 3 ce (.slice A3 m3 c3) L3 ∧ Below w.heap.size w w' ∧ m3 ≤ 1048576 := by
  subst hn
  by_cases hg : NetLaw.Good N l
  · refine (turn_yes N A c l w hl hg).mono ?_
    rintro e w' ⟨A3, c3, h1, h2, h3⟩
    exact ⟨N, A3, _, c3, tl l, 0, h1, rfl, h2, h3, by rw [tl_len]; exact hlen⟩
  · refine (turn_no N A c l w hl (by omega) hg).mono ?_
    rintro e w' ⟨h1, h3⟩
    exact ⟨0, none, 0, 0, [], chk N l, h1, rfl, Own.nil_, h3, by omega⟩
theorem flat_own (N : Int) (A : Option Addr) (n c : Nat) (l : List E) (A' : Option Addr) (m c' : Nat) (h : List Int) (w : World) (hl : Sl w w.heap.size 3 ce A l) (hn : l.length = n) (hlen : n ≤ 1048576) (hA : A = none → n = 0 ∧ c = 0) (hh : Sl w w.heap.size 1 ci A' h) (hm : h.length = m) (hlen' : m ≤ 1048576) :
    Calls Try.prog 18 #[.agg #[.int .i64 N, .slice A n c], .slice A' m c'] w fun e w' => ∃ N3 A3 m3 c3 L3 er, e = .returned (.tuple #[.agg #[.int .i64 N3, .slice A3 m3 c3], .int .i64 er]) ∧ L3.length = m3 ∧ Own w' w.heap.size 27 3 ce (.slice A3 m3 c3) L3 ∧ Below w.heap.size w w' ∧ m3 ≤ 1048576 := by
  subst hn hm
  refine (John.Flat_any N A c l A' c' h w hl hA hh (by omega) (by omega)).mono ?_
  rintro e w' ⟨h1, h2, h3⟩
  by_cases hf : JohnLaw.ferr N l h = 0
  · obtain ⟨A3, c3, h4, h5⟩ := h2 hf
    have hfl : (JohnLaw.flt h l).length = l.length := by simp [JohnLaw.flt]
    exact ⟨N, A3, _, c3, JohnLaw.flt h l, 0, h4, hfl, h5, h3, hlen⟩
  · exact ⟨0, none, 0, 0, [], _, h1 hf, rfl, Own.nil_, h3, by omega⟩
theorem same_e (A A' : Option Addr) (n c c' : Nat) (l : List E) (w : World) (hl : Sl w w.heap.size 3 ce A l) (hm : Sl w w.heap.size 3 ce A' l) (hn : l.length = n) (hlen : n ≤ 9223372036854775807) :
    Calls Try.prog 25 #[.slice A n c, .slice A' n c'] w fun e w' => e = .returned (.bool true) ∧ ∃ k, w' = w.drewN k :=
  equal_edge' A A' n n c c' l l w.heap.size w.heap.size w hl hm hn hn hlen true (by simp)
theorem clone_own_e (A : Option Addr) (n c : Nat) (l : List E) (b : Nat) (w : World) (h : Own w b 27 3 ce (.slice A n c) l) (hn : l.length = n) (hlen : n ≤ 1048576) :
    Calls Try.prog 23 #[.slice A n c] w fun e w' => ∃ A' c', e = .returned (.slice A' n c') ∧ Own w' w.heap.size 27 3 ce (.slice A' n c') l ∧ Below w.heap.size w w' := by
  have hnil := own_nil h
  have hsl := h.sl.2
  subst hn
  refine (clone_edge A c l w.heap.size w hsl (Nat.le_refl _) hnil (by omega)).mono ?_
  rintro e w' ⟨A', c', h1, h2, h3⟩
  exact ⟨A', c', h1, h2, h3⟩
theorem good2 : NetLaw.Good 2 [(0, 1, 5)] := ⟨by decide, by decide, by decide, by decide, by decide⟩
theorem turn_two (W : World) (g : Nat) (h : Sl W W.heap.size 3 ce (some ⟨g, 0, none⟩) [(0, 1, 5)]) :
    Calls Try.prog 17 #[.agg #[.int .i64 2, .slice (some ⟨g, 0, none⟩) 1 1]] W fun e w' => ∃ A c, e = .returned (.tuple #[.agg #[.int .i64 2, .slice A 1 c], .int .i64 0]) ∧ Own w' W.heap.size 27 3 ce (.slice A 1 c) [(1, 0, 5)] ∧ Below W.heap.size W w' :=
  turn_yes 2 (some ⟨g, 0, none⟩) 1 [(0, 1, 5)] W h good2
/-- the net handed in: its box, its edges with room behind -/
structure In (w0 wx : World) (N : Int) (n X S : Nat) (l : List E) : Prop where
  box : wx.heap[X]? = some (.cells #[.int .i64 N, .slice (some ⟨S, 0, none⟩) n (n + 3)] 24 (0, 0))
  own : Own wx w0.heap.size 27 3 ce (.slice (some ⟨S, 0, none⟩) (n + 3) (n + 3)) (l ++ List.replicate 3 (70, 71, 72))
  below : Below w0.heap.size w0 wx
  le : w0.heap.size ≤ X
theorem in_alloc {w0 wd : World} {N : Int} {n b S : Nat} {l : List E} (own : Own wd b 27 3 ce (.slice (some ⟨S, 0, none⟩) (n + 3) (n + 3)) (l ++ List.replicate 3 (70, 71, 72))) (hb : w0.heap.size ≤ b) (HB : Below w0.heap.size w0 wd) : In w0 (wd.alloc (.cells #[.int .i64 N, .slice (some ⟨S, 0, none⟩) n (n + 3)] 24)) N n wd.heap.size S l :=
  ⟨heap_alloc_new wd _, (own.mono hb).alloc _, HB.alloc HB.size _, HB.size⟩
theorem in_set {w0 wd : World} {N : Int} {n b S X : Nat} {l : List E} (own : Own wd b 27 3 ce (.slice (some ⟨S, 0, none⟩) (n + 3) (n + 3)) (l ++ List.replicate 3 (70, 71, 72))) (hb : w0.heap.size ≤ b) (HB : Below w0.heap.size w0 wd) (hX : w0.heap.size ≤ X) (m : wd.heap[X]? = some (.cells #[.int .i64 0, .slice none 0 0] 24 (0, 0))) :
    In w0 ((wd.setCell ⟨X, 0, none⟩ (.int .i64 N)).setCell ⟨X, 1, none⟩ (.slice (some ⟨S, 0, none⟩) n (n + 3))) N n X S l := by
  have hne := own.ne_ m (by decide)
  refine ⟨blk_set (blk_set m 0 (.int .i64 N)) 1 (.slice (some ⟨S, 0, none⟩) n (n + 3)), ((own.mono hb).setCell hne _).setCell hne _, (HB.setCell hX _).setCell hX _, hX⟩

set_option maxRecDepth 100000 in
set_option maxHeartbeats 4000000 in
theorem walk (w : World) (N : Int) (A : Option Addr) (c : Nat) (l : List E) (hA : Arg w 3 ce A c l) (A2 : Option Addr) (c2 : Nat) (b : List Int) (hA2 : Arg w 1 ci A2 c2 b) (hi2 : ∀ z ∈ b, I64 z)
    (hbulk : l.length + b.length ≤ 1048576) :
    Calls Try.prog 3 #[.agg #[.int .i64 N, .slice A l.length c], .slice A2 b.length c2] w fun e w' => e = .returned (.bool true) ∧ Below w.heap.size w w' := by
  have hs := hA.sl
  have hb := hA2.sl
  have hna := hA.nil
  have hnb := hA2.nil
  clear hA hA2 hi2
  obtain ⟨n, hn⟩ : ∃ n, l.length = n := ⟨_, rfl⟩
  obtain ⟨m, hm⟩ : ∃ m, b.length = m := ⟨_, rfl⟩
  rw [hn] at hna hbulk ⊢
  rw [hm] at hnb hbulk ⊢
  have HN := Lib.hid hn
  have HM := Lib.hid hm
  have HNA := Lib.hid hna
  have HNB := Lib.hid hnb
  have hkeep : ∀ W, Below (w.heap.size + 2) ((w.alloc (.cells #[.int .i64 N, .slice A n c] 24)).alloc (.cells #[.int .i64 70, .int .i64 71, .int .i64 72] 27)) W →
      (W.cell? ⟨w.heap.size, 0, none⟩ = some (.int .i64 N) ∧ W.cell? ⟨w.heap.size, 1, none⟩ = some (.slice A n c) ∧ W.cell? ⟨w.heap.size + 1, 0, none⟩ = some (.int .i64 70) ∧ W.cell? ⟨w.heap.size + 1, 1, none⟩ = some (.int .i64 71) ∧ W.cell? ⟨w.heap.size + 1, 2, none⟩ = some (.int .i64 72)) ∧ w.heap.size + 2 ≤ W.heap.size ∧ Sl W W.heap.size 3 ce A l ∧ Sl W W.heap.size 1 ci A2 b ∧ Below w.heap.size w W := fun W hW => by
    have h0 := blk_below (blk_alloc (heap_alloc_new w (.cells #[.int .i64 N, .slice A n c] 24)) (.cells #[.int .i64 70, .int .i64 71, .int .i64 72] 27)) hW (by omega)
    have h1 := blk_below (heap_alloc_new (w.alloc (.cells #[.int .i64 N, .slice A n c] 24)) (.cells #[.int .i64 70, .int .i64 71, .int .i64 72] 27)) hW (by simp)
    rw [show (w.alloc (.cells #[.int .i64 N, .slice A n c] 24)).heap.size = w.heap.size + 1 by simp] at h1
    have H : Below w.heap.size w W := (((Below.refl _ _).alloc (Nat.le_refl _) _).alloc (by simp) _).trans (hW.mono (by omega))
    have hz := hW.size
    simp at hz
    refine ⟨⟨?_, ?_, ?_, ?_, ?_⟩, hz, (hs.keep H (Nat.le_refl _)).more H.size, (hb.keep H (Nat.le_refl _)).more H.size, H⟩
    · rw [blk_cell h0]; rfl
    · rw [blk_cell h0]; rfl
    · rw [blk_cell h1]; rfl
    · rw [blk_cell h1]; rfl
    · rw [blk_cell h1]; rfl
  have HK := Lib.hid hkeep
  have B0 : Below (w.heap.size + 2) ((w.alloc (.cells #[.int .i64 N, .slice A n c] 24)).alloc (.cells #[.int .i64 70, .int .i64 71, .int .i64 72] 27)) ((w.alloc (.cells #[.int .i64 N, .slice A n c] 24)).alloc (.cells #[.int .i64 70, .int .i64 71, .int .i64 72] 27)) := Below.refl _ _
  clear hn hm hna hnb hkeep hs hb
  go_enter Try.func3, Try.ntmps3
  go_upto_region 2 with fail
  obtain ⟨⟨q0, q1, e0, e1, e2⟩, Z0, sg, sh, H0⟩ := HK.out _ B0
  generalize ((w.alloc (.cells #[.int .i64 N, .slice A n c] 24)).alloc (.cells #[.int .i64 70, .int .i64 71, .int .i64 72] 27)) = w1 at HK B0 q0 q1 e0 e1 e2 Z0 sg sh H0 ⊢
  have z1 : w.heap.size < w1.heap.size := by omega
  have z2 : w.heap.size + 1 < w1.heap.size := by omega
  have hks : ∀ W, Below w1.heap.size w1 W → (W.cell? ⟨w.heap.size, 0, none⟩ = some (.int .i64 N) ∧ W.cell? ⟨w.heap.size, 1, none⟩ = some (.slice A n c) ∧ W.cell? ⟨w.heap.size + 1, 0, none⟩ = some (.int .i64 70) ∧ W.cell? ⟨w.heap.size + 1, 1, none⟩ = some (.int .i64 71) ∧ W.cell? ⟨w.heap.size + 1, 2, none⟩ = some (.int .i64 72)) ∧ Sl W W.heap.size 3 ce A l := fun W hW =>
    ⟨⟨(hW.cell (p := ⟨w.heap.size, 0, none⟩) z1).trans q0, (hW.cell (p := ⟨w.heap.size, 1, none⟩) z1).trans q1, (hW.cell (p := ⟨w.heap.size + 1, 0, none⟩) z2).trans e0, (hW.cell (p := ⟨w.heap.size + 1, 1, none⟩) z2).trans e1, (hW.cell (p := ⟨w.heap.size + 1, 2, none⟩) z2).trans e2⟩, (sg.keep hW (Nat.le_refl _)).more hW.size⟩
  have KS := Lib.hid hks
  have kr := fun W h => roomy_edge A n c l 70 71 72 W h HN.out HNA.out (by omega)
  have KR := Lib.hid kr
  have hb2 := B0
  clear hks kr sg sh
  go_cut [6] from 18 to 24 (fun s6 wx => ∃ (X S : Nat), s6 = .pointer (some ⟨X, 0, none⟩) ∧ Hid (In w1 wx N n X S l))
  case first =>
    go_region_held3 (fun w' => w'.cell? ⟨w.heap.size, 0, none⟩ = some (.int .i64 N) ∧ w'.cell? ⟨w.heap.size, 1, none⟩ = some (.slice A n c) ∧ w'.cell? ⟨w.heap.size + 1, 0, none⟩ = some (.int .i64 70) ∧ w'.cell? ⟨w.heap.size + 1, 1, none⟩ = some (.int .i64 71) ∧ w'.cell? ⟨w.heap.size + 1, 2, none⟩ = some (.int .i64 72))
      (first
        | go_keep
        | exact ⟨p0, p1, p2, p3, p4⟩
        | exact ⟨(World.cell?_setCell_far _ _ _ _ (by dsimp only; omega)).trans ((World.cell?_setCell_far _ _ _ _ (by dsimp only; omega)).trans p0), (World.cell?_setCell_far _ _ _ _ (by dsimp only; omega)).trans ((World.cell?_setCell_far _ _ _ _ (by dsimp only; omega)).trans p1), (World.cell?_setCell_far _ _ _ _ (by dsimp only; omega)).trans ((World.cell?_setCell_far _ _ _ _ (by dsimp only; omega)).trans p2), (World.cell?_setCell_far _ _ _ _ (by dsimp only; omega)).trans ((World.cell?_setCell_far _ _ _ _ (by dsimp only; omega)).trans p3), (World.cell?_setCell_far _ _ _ _ (by dsimp only; omega)).trans ((World.cell?_setCell_far _ _ _ _ (by dsimp only; omega)).trans p4)⟩)
      (first
        | (go_at_call 15; refine (KR.out _ ((KS.out _ (by first | exact (Below.refl _ _).drew | exact (Below.refl _ _).drew.alloc (Nat.le_refl _) _)).2)).mono ?_; rintro e wd ⟨S, rfl, own7, hb7⟩; have HB7 : Below w1.heap.size w1 wd := (by first | exact (Below.refl _ _).drew.trans (hb7.mono (Nat.le_refl _)) | exact ((Below.refl _ _).drew.alloc (Nat.le_refl _) _).trans (hb7.mono (by simp))); obtain ⟨⟨p0, p1, p2, p3, p4⟩, _⟩ := KS.out _ HB7; (first | (have m4 : wd.heap[w1.heap.size]? = some (.cells #[.int .i64 0, .slice none 0 0] 24 (0, 0)) := blk_below (heap_alloc_new w1.drew _) hb7 (by simp); have m40 := blk_cell m4 0; have m41 := blk_cell m4 1; have mf0 := blk_free m4 0; have mf1 := blk_free m4 1; simp only [List.getElem?_toArray, List.getElem?_cons_zero, List.getElem?_cons_succ] at m40 m41) | skip)))
    all_goals
      go_wp2_with fail
      go_meet
      refine ⟨_, S, rfl, Lib.hid ?_⟩
      first
        | exact in_alloc own7 (by simp) HB7
        | exact in_set own7 (by simp) HB7 (Nat.le_refl _) m4
  case rest =>
    obtain ⟨X, S, rfl, IN⟩ := hcut
    obtain ⟨w2, rfl⟩ : ∃ w2 : World, w2 = wc := ⟨_, rfl⟩
    have B2 := B0.trans (IN.out.below.mono Z0)
    have LS : w.heap.size + 2 ≤ w1.heap.size := Z0
    have hG := IN.out.own
    have hBX := IN.out.box
    have hXl := IN.out.le
    have zS : S < w2.heap.size := (hG.base_ S rfl).2
    have zX : X < w2.heap.size := lt_of_block hBX
    have dSX : S ≠ X := fun e => by
      have h1 := hG.ne_ hBX (by decide)
      exact h1 (by rw [e]; rfl)
    clear q0 q1 e0 e1 e2 Z0 H0 hb2 B0 KS KR z1 z2 IN
    obtain ⟨⟨q0, q1, e0, e1, e2⟩, Z2, sg, sh, H2⟩ := HK.out _ B2
    have z1 : w.heap.size < w2.heap.size := by omega
    have z2 : w.heap.size + 1 < w2.heap.size := by omega
    clear sg H2
    go_wp2_with fail
    refine (roomy_int A2 m c2 b 9 w2 sh HM.out HNB.out (by omega)).mono ?_
    rintro e w3 ⟨S3, rfl, K, hb3⟩
    replace hG := hG.keep hb3
    replace hBX := blk_below hBX hb3 zX
    have B3 := B2.trans (hb3.mono Z2)
    have dS3 : S ≠ S3 ∧ X ≠ S3 := by
      have := (K.base_ S3 rfl).1
      omega
    have zS3 : S3 < w3.heap.size := (K.base_ S3 rfl).2
    replace zS : S < w3.heap.size := Nat.lt_of_lt_of_le zS hb3.size
    replace zX : X < w3.heap.size := Nat.lt_of_lt_of_le zX hb3.size
    have hLS3 : w.heap.size + 2 ≤ w2.heap.size := Z2
    clear q0 q1 e0 e1 e2 sh hb3 B2 Z2 z1 z2
    have x0 := blk_cell hBX 0
    have x1 := blk_cell hBX 1
    simp only [List.getElem?_toArray, List.getElem?_cons_zero, List.getElem?_cons_succ] at x0 x1
    have Z3 : w.heap.size + 2 ≤ w3.heap.size := by omega
    go_wp2_with fail
    refine (turn_own N (some ⟨S, 0, none⟩) n (n + 3) l w3 (sl_pre hG.sl.2) HN.out (by omega)).mono ?_
    rintro e w4 ⟨N4, A4, m4, c4, L4, er4, rfl, hL4, J, hb4, hm4⟩
    have HL4 := Lib.hid hL4
    have dJ : ∀ g, ob A4 = some g → g ≠ S ∧ g ≠ S3 := fun g hg => by
      have := (J.base_ g (by rw [obs]; exact hg)).1
      omega
    have DJ := Lib.hid dJ
    replace hG := (hG.keep hb4).alloc (.cells #[.int .i64 N4, .slice A4 m4 c4] 24)
    replace K := (K.keep hb4).alloc (.cells #[.int .i64 N4, .slice A4 m4 c4] 24)
    replace hBX := blk_alloc (blk_below hBX hb4 zX) (.cells #[.int .i64 N4, .slice A4 m4 c4] 24)
    have hB8 := heap_alloc_new w4 (.cells #[.int .i64 N4, .slice A4 m4 c4] 24)
    have dJ8 : ∀ g, ob A4 = some g → g < w4.heap.size := fun g hg => (J.base_ g (by rw [obs]; exact hg)).2
    have DJ8 := Lib.hid dJ8
    have B4 := (B3.trans (hb4.mono Z3)).alloc (by have := hb4.size; omega) (.cells #[.int .i64 N4, .slice A4 m4 c4] 24)
    have hz4 := hb4.size
    have LJ : w.heap.size + 2 ≤ w3.heap.size := Z3
    replace J := J.alloc (.cells #[.int .i64 N4, .slice A4 m4 c4] 24)
    replace zS : S < w4.heap.size := by omega
    replace zX : X < w4.heap.size := by omega
    replace zS3 : S3 < w4.heap.size := by omega
    clear hL4 dJ dJ8 hb4 B3 Z3 x0 x1
    have zz4 : w4.heap.size < (w4.alloc (.cells #[.int .i64 N4, .slice A4 m4 c4] 24)).heap.size := by simp
    have x0 := blk_cell hBX 0
    have x1 := blk_cell hBX 1
    simp only [List.getElem?_toArray, List.getElem?_cons_zero, List.getElem?_cons_succ] at x0 x1
    go_wp2_with fail
    refine (flat_own N (some ⟨S, 0, none⟩) n (n + 3) l (some ⟨S3, 0, none⟩) m (m + 3) b _ (sl_pre hG.sl.2) HN.out (by omega) (fun e => by cases e) (sl_pre K.sl.2) HM.out (by omega)).mono ?_
    generalize hw4a : (w4.alloc (.cells #[.int .i64 N4, .slice A4 m4 c4] 24)) = w4a at B4 hG K J hBX hB8 x0 x1 zz4 ⊢
    clear hw4a
    rintro e w5 ⟨N5, A5, m5, c5, L5, er5, rfl, hL5, F, hb5, hm5⟩
    have HL5 := Lib.hid hL5
    have dF : ∀ g, ob A5 = some g → g ≠ S ∧ g ≠ S3 ∧ ob A4 ≠ some g ∧ g ≠ w4.heap.size := fun g hg => by
      have h1 := (F.base_ g (by rw [obs]; exact hg)).1
      refine ⟨by omega, by omega, fun e => ?_, by omega⟩
      have := DJ8.out g e
      omega
    have DF := Lib.hid dF
    replace hG := (hG.keep hb5).alloc (.cells #[.int .i64 N5, .slice A5 m5 c5] 24)
    replace K := (K.keep hb5).alloc (.cells #[.int .i64 N5, .slice A5 m5 c5] 24)
    replace J := (J.keep hb5).alloc (.cells #[.int .i64 N5, .slice A5 m5 c5] 24)
    replace F := F.alloc (.cells #[.int .i64 N5, .slice A5 m5 c5] 24)
    replace hBX := blk_alloc (blk_below hBX hb5 (by omega)) (.cells #[.int .i64 N5, .slice A5 m5 c5] 24)
    replace hB8 := blk_alloc (blk_below hB8 hb5 zz4) (.cells #[.int .i64 N5, .slice A5 m5 c5] 24)
    have hB10 := heap_alloc_new w5 (.cells #[.int .i64 N5, .slice A5 m5 c5] 24)
    have zz5 : w5.heap.size < (w5.alloc (.cells #[.int .i64 N5, .slice A5 m5 c5] 24)).heap.size := by simp
    have hz5 := hb5.size
    have Z4a := B4.size
    have B5 := (B4.trans (hb5.mono (by omega))).alloc (by omega) (.cells #[.int .i64 N5, .slice A5 m5 c5] 24)
    clear hL5 dF hb5 B4 x0 x1 Z4a
    have x0 := blk_cell hBX 0
    have x1 := blk_cell hBX 1
    simp only [List.getElem?_toArray, List.getElem?_cons_zero, List.getElem?_cons_succ] at x0 x1
    obtain ⟨⟨q0, q1, e0, e1, e2⟩, Z5, sg, sh, H5⟩ := HK.out _ B5
    have z1 : w.heap.size < (w5.alloc (.cells #[.int .i64 N5, .slice A5 m5 c5] 24)).heap.size := by omega
    have z2 : w.heap.size + 1 < (w5.alloc (.cells #[.int .i64 N5, .slice A5 m5 c5] 24)).heap.size := by omega
    replace zX : X < (w5.alloc (.cells #[.int .i64 N5, .slice A5 m5 c5] 24)).heap.size := by omega
    clear sh H5
    go_wp2_with fail
    generalize hw5a : (w5.alloc (.cells #[.int .i64 N5, .slice A5 m5 c5] 24)) = w5a at B5 hG K J F hBX hB8 hB10 zz5 x0 x1 q0 q1 e0 e1 e2 Z5 sg z1 z2 zX ⊢
    clear hw5a
    refine (same_net N N (some ⟨S, 0, none⟩) A n n (n + 3) c l l w5a (sl_pre hG.sl.2) sg HN.out HN.out (by omega) true (by simp)).mono ?_
    rintro e w6 ⟨rfl, hb6⟩
    replace hG := hG.keep hb6
    replace K := K.keep hb6
    replace J := J.keep hb6
    replace F := F.keep hb6
    replace hBX := blk_below hBX hb6 zX
    replace hB8 := blk_below hB8 hb6 (by omega)
    replace hB10 := blk_below hB10 hb6 zz5
    have B6 := B5.trans (hb6.mono Z5)
    have hz6 := hb6.size
    clear x0 x1 q0 q1 e0 e1 e2 sg hb6 B5 Z5 z1 z2
    have x0 := blk_cell hBX 0
    have x1 := blk_cell hBX 1
    simp only [List.getElem?_toArray, List.getElem?_cons_zero, List.getElem?_cons_succ] at x0 x1
    obtain ⟨⟨q0, q1, e0, e1, e2⟩, Z6, sg, sh, H6⟩ := HK.out _ B6
    have z2 : w.heap.size + 1 < w6.heap.size := by omega
    replace zX : X < w6.heap.size := by omega
    clear sg sh H6
    go_wp2_with fail
    refine (filled_edge S n _ l 70 71 72 w6 hG HN.out (by omega)).mono ?_
    rintro e w7 ⟨rfl, hb7⟩
    replace hG := hG.keep hb7
    replace K := K.keep hb7
    replace J := J.keep hb7
    replace F := F.keep hb7
    replace hBX := blk_below hBX hb7 zX
    replace hB8 := blk_below hB8 hb7 (by omega)
    replace hB10 := blk_below hB10 hb7 (by omega)
    have B7 := B6.trans (hb7.mono Z6)
    have hz7 := hb7.size
    clear x0 x1 q0 q1 e0 e1 e2 hb7 B6 Z6 z2
    obtain ⟨_, Z7, sg, sh, H7⟩ := HK.out _ B7
    clear sg H7
    go_wp2_with fail
    refine (equal_int' (some ⟨S3, 0, none⟩) A2 m m (m + 3) c2 b b w7.heap.size w7.heap.size w7 (sl_pre K.sl.2) sh HM.out HM.out (by omega) true (by simp)).mono ?_
    rintro e w8 ⟨rfl, k8, rfl⟩
    have hb8 := below_drewN (Below.refl w7.heap.size w7) k8
    generalize w7.drewN k8 = w8 at hb8 ⊢
    replace hG := hG.keep hb8
    replace K := K.keep hb8
    replace J := J.keep hb8
    replace F := F.keep hb8
    replace hBX := blk_below hBX hb8 (by omega)
    replace hB8 := blk_below hB8 hb8 (by omega)
    replace hB10 := blk_below hB10 hb8 (by omega)
    have B8 := B7.trans (hb8.mono Z7)
    have hz8 := hb8.size
    have Z8 : w.heap.size + 2 ≤ w8.heap.size := by omega
    clear sh hb8 B7 Z7
    go_wp2_with fail
    refine (filled_int S3 m _ b 9 w8 K HM.out (by omega)).mono ?_
    rintro e w9 ⟨rfl, rfl⟩
    have a1 := blk_cell hB8 1
    have f1 := blk_cell hB10 1
    simp only [List.getElem?_toArray, List.getElem?_cons_zero, List.getElem?_cons_succ] at a1 f1
    clear K
    have L1 : w.heap.size + 2 ≤ w1.heap.size := LS
    have zS9 : S < w9.heap.size := by omega
    have zA : w4.heap.size < w9.heap.size := by omega
    have zF : w5.heap.size < w9.heap.size := by omega
    have ks8 : ∀ W, Below w9.heap.size w9 W → (W.cell? ⟨w4.heap.size, 1, none⟩ = some (.slice A4 m4 c4) ∧ W.cell? ⟨w5.heap.size, 1, none⟩ = some (.slice A5 m5 c5)) ∧ Own W w3.heap.size 27 3 ce (.slice A4 m4 c4) L4 ∧ Own W w4a.heap.size 27 3 ce (.slice A5 m5 c5) L5 := fun W hW =>
      ⟨⟨(hW.cell (p := ⟨w4.heap.size, 1, none⟩) zA).trans a1, (hW.cell (p := ⟨w5.heap.size, 1, none⟩) zF).trans f1⟩, J.keep hW, F.keep hW⟩
    have KS8 := Lib.hid ks8
    have HM4 := Lib.hid hm4
    have HM5 := Lib.hid hm5
    clear ks8 hm4 hm5
    go_upto_region 8 with fail
    go_cut [12, 13] from 60 to 65 (fun s12 s13 wx => ∃ (Ap : Option Addr) (cp : Nat) (Aq : Option Addr) (cq : Nat), s12 = .slice Ap m4 cp ∧ s13 = .slice Aq m5 cq ∧ Hid (Own wx w9.heap.size 27 3 ce (.slice Ap m4 cp) L4 ∧ Own wx w9.heap.size 27 3 ce (.slice Aq m5 cq) L5 ∧ Below w9.heap.size w9 wx))
    case first =>
      go_region_held3 (fun w' => w'.cell? ⟨w4.heap.size, 1, none⟩ = some (.slice A4 m4 c4) ∧ w'.cell? ⟨w5.heap.size, 1, none⟩ = some (.slice A5 m5 c5))
        (first
          | go_keep
          | exact ⟨a1, f1⟩
          | exact ⟨p0, p1⟩)
        (first
          | (go_at_call_of 23 A4; refine (clone_own_e A4 m4 c4 L4 _ _ (KS8.out _ (by first | exact HBq | exact HBq.drew | exact (Below.refl _ _).drew | exact Below.refl _ _)).2.1 HL4.out HM4.out).mono ?_; rintro e wa ⟨Ap, cp, rfl, P, hba⟩; have HBp : Below w9.heap.size w9 wa := (by first | exact HBq.trans (hba.mono HBq.size) | exact HBq.drew.trans (hba.mono HBq.size) | exact (Below.refl _ _).drew.trans (hba.mono (Nat.le_refl _)) | exact hba); replace P := P.mono (base' := w9.heap.size) (by first | exact HBq.size | exact Nat.le_refl _); (first | (replace Q := Q.keep hba) | (replace Q := Q.keep (hba.mono (Nat.le_refl _))) | skip); obtain ⟨⟨p0, p1⟩, _⟩ := KS8.out _ HBp)
          | (go_at_call_of 23 A5; refine (clone_own_e A5 m5 c5 L5 _ _ (KS8.out _ (by first | exact HBp | exact HBp.drew | exact (Below.refl _ _).drew | exact Below.refl _ _)).2.2 HL5.out HM5.out).mono ?_; rintro e wb ⟨Aq, cq, rfl, Q, hbb⟩; have HBq : Below w9.heap.size w9 wb := (by first | exact HBp.trans (hbb.mono HBp.size) | exact HBp.drew.trans (hbb.mono HBp.size) | exact (Below.refl _ _).drew.trans (hbb.mono (Nat.le_refl _)) | exact hbb); replace Q := Q.mono (base' := w9.heap.size) (by first | exact HBp.size | exact Nat.le_refl _); (first | (replace P := P.keep hbb) | (replace P := P.keep (hbb.mono (Nat.le_refl _))) | skip); obtain ⟨⟨p0, p1⟩, _⟩ := KS8.out _ HBq))
      all_goals
        go_wp2_with fail
        go_meet
        first
          | exact ⟨_, _, _, _, rfl, rfl, Lib.hid ⟨P, Q, HBq⟩⟩
          | exact ⟨_, _, _, _, rfl, rfl, Lib.hid ⟨P, Q, HBp⟩⟩
    case rest =>
      obtain ⟨Ap, cp, Aq, cq, rfl, rfl, hid10⟩ := hcut
      obtain ⟨P, Q, hb10⟩ := hid10.out
      obtain ⟨w10, rfl⟩ : ∃ w10 : World, w10 = wc := ⟨_, rfl⟩
      clear hid10 KS8 a1 f1
      have dP : ∀ g, ob Ap = some g → g ≠ S := fun g hg => by
        have h1 := (P.base_ g (by rw [obs]; exact hg)).1
        omega
      have dQ : ∀ g, ob Aq = some g → g ≠ S ∧ ob A4 ≠ some g := fun g hg => by
        have h1 := (Q.base_ g (by rw [obs]; exact hg)).1
        refine ⟨by omega, fun e => ?_⟩
        have := DJ8.out g e
        omega
      have DP := Lib.hid dP
      have DQ := Lib.hid dQ
      have dBox : (∀ g, ob A4 = some g → g ≠ w5.heap.size) ∧ S ≠ w4.heap.size ∧ S ≠ w5.heap.size := ⟨fun g hg => by have := DJ8.out g hg; omega, by omega, by omega⟩
      have DB := Lib.hid dBox
      clear dP dQ dBox
      replace hG := hG.keep hb10
      replace J := J.keep hb10
      replace F := F.keep hb10
      replace hBX := blk_below hBX hb10 (by omega)
      replace hB8 := blk_below hB8 hb10 zA
      replace hB10 := blk_below hB10 hb10 zF
      have B10 := B8.trans (hb10.mono (by omega))
      have hz10 := hb10.size
      clear hb10 B8
      have x1 := blk_cell hBX 1
      simp only [List.getElem?_toArray, List.getElem?_cons_zero, List.getElem?_cons_succ] at x1
      go_wp2_with fail
      refine (spoil_edge (some ⟨S, 0, none⟩) n (n + 3) (n + 3) _ _ 0 0 0 w10 hG (by omega)).mono ?_
      rintro e w11 ⟨rfl, hg11⟩
      replace J := kp J hg11 (fun g hg e => by injection e with e; exact (DJ.out g hg).1 e.symm)
      replace F := kp F hg11 (fun g hg e => by injection e with e; exact (DF.out g hg).1 e.symm)
      replace P := kp P hg11 (fun g hg e => by injection e with e; exact DP.out g hg e.symm)
      replace Q := kp Q hg11 (fun g hg e => by injection e with e; exact (DQ.out g hg).1 e.symm)
      replace hB8 := blk_grown hB8 hg11 (fun e => by injection e with e; exact DB.out.2.1 e)
      replace hB10 := blk_grown hB10 hg11 (fun e => by injection e with e; exact DB.out.2.2 e)
      have B11 := B10.grown hg11 (by omega) (fun k hk => Nat.le_trans L1 (hG.lo k hk))
      have hz11 := hg11.size
      clear hg11 hG B10 hBX x1
      have a1 := blk_cell hB8 1
      have f1 := blk_cell hB10 1
      simp only [List.getElem?_toArray, List.getElem?_cons_zero, List.getElem?_cons_succ] at a1 f1
      go_wp2_with fail
      refine (same_e A4 Ap m4 c4 cp L4 w11 J.sl.2 P.sl.2 HL4.out (by have := HM4.out; omega)).mono ?_
      rintro e w12 ⟨rfl, k12, rfl⟩
      have hb12 := below_drewN (Below.refl w11.heap.size w11) k12
      generalize w11.drewN k12 = w12 at hb12 ⊢
      replace J := J.keep hb12
      replace F := F.keep hb12
      replace Q := Q.keep hb12
      replace hB8 := blk_below hB8 hb12 (by omega)
      replace hB10 := blk_below hB10 hb12 (by omega)
      have B12 := B11.trans (hb12.mono (by omega))
      have hz12 := hb12.size
      clear hb12 B11 P a1 f1
      have a1 := blk_cell hB8 1
      have f1 := blk_cell hB10 1
      simp only [List.getElem?_toArray, List.getElem?_cons_zero, List.getElem?_cons_succ] at a1 f1
      go_wp2_with fail
      refine (same_e A5 Aq m5 c5 cq L5 w12 F.sl.2 Q.sl.2 HL5.out (by have := HM5.out; omega)).mono ?_
      rintro e w13 ⟨rfl, k13, rfl⟩
      have hb13 := below_drewN (Below.refl w12.heap.size w12) k13
      generalize w12.drewN k13 = w13 at hb13 ⊢
      replace J := J.keep hb13
      replace F := F.keep hb13
      replace Q := Q.keep hb13
      replace hB8 := blk_below hB8 hb13 (by omega)
      replace hB10 := blk_below hB10 hb13 (by omega)
      have B13 := B12.trans (hb13.mono (by omega))
      have hz13 := hb13.size
      clear hb13 B12 a1 f1
      have a1 := blk_cell hB8 1
      simp only [List.getElem?_toArray, List.getElem?_cons_zero, List.getElem?_cons_succ] at a1
      go_wp2_with fail
      refine (spoil_edge A4 m4 m4 c4 _ L4 0 0 0 w13 J (own_cap J)).mono ?_
      rintro e w14 ⟨rfl, hg14⟩
      replace F := kp F hg14 (fun g hg e => (DF.out g hg).2.2.1 (by rw [obs] at e; exact e))
      replace Q := kp Q hg14 (fun g hg e => (DQ.out g hg).2 (by rw [obs] at e; exact e))
      replace hB10 := blk_grown hB10 hg14 (fun e => DB.out.1 _ (by rw [obs] at e; exact e) rfl)
      have B14 := B13.grown hg14 (by omega) (fun k hk => Nat.le_trans LJ (J.lo k hk))
      have hz14 := hg14.size
      clear hg14 J B13 a1 hB8
      go_wp2_with fail
      refine (two_any w14).mono ?_
      rintro e w15 ⟨g15, rfl, O, hb15⟩
      replace F := F.keep hb15
      replace Q := Q.keep hb15
      replace hB10 := blk_below hB10 hb15 (by omega)
      have B15 := B14.trans (hb15.mono (by omega))
      have hz15 := hb15.size
      clear hb15 B14
      go_wp2_with fail
      refine (turn_two w15 g15 O.sl.2).mono ?_
      rintro e w16 ⟨A16, c16, rfl, O', hb16⟩
      replace F := (F.keep hb16).alloc (.cells #[.int .i64 2, .slice A16 1 c16] 24)
      replace Q := (Q.keep hb16).alloc (.cells #[.int .i64 2, .slice A16 1 c16] 24)
      replace hB10 := blk_alloc (blk_below hB10 hb16 (by omega)) (.cells #[.int .i64 2, .slice A16 1 c16] 24)
      have hB15 := heap_alloc_new w16 (.cells #[.int .i64 2, .slice A16 1 c16] 24)
      have hz16 := hb16.size
      have B16 := (B15.trans (hb16.mono (by omega))).alloc (by omega) (.cells #[.int .i64 2, .slice A16 1 c16] 24)
      have zz16 : w16.heap.size < (w16.alloc (.cells #[.int .i64 2, .slice A16 1 c16] 24)).heap.size := by simp
      clear hb16 B15 O O'
      have f1 := blk_cell hB10 1
      have t1 := blk_cell hB15 1
      simp only [List.getElem?_toArray, List.getElem?_cons_zero, List.getElem?_cons_succ] at f1 t1
      go_wp2_with fail
      generalize hw17 : (w16.alloc (.cells #[.int .i64 2, .slice A16 1 c16] 24)) = w17 at B16 F Q hB10 hB15 zz16 f1 t1 ⊢
      clear hw17
      refine (same_e A5 Aq m5 c5 cq L5 w17 F.sl.2 Q.sl.2 HL5.out (by have := HM5.out; omega)).mono ?_
      rintro e w18 ⟨rfl, k18, rfl⟩
      have hb18 := below_drewN (Below.refl w17.heap.size w17) k18
      generalize w17.drewN k18 = w18 at hb18 ⊢
      replace hB15 := blk_below hB15 hb18 zz16
      have B18 := B16.trans (hb18.mono (by omega))
      have hfin := (HK.out _ B18).2.2.2.2
      clear f1 t1
      have t1 := blk_cell hB15 1
      simp only [List.getElem?_toArray, List.getElem?_cons_zero, List.getElem?_cons_succ] at t1
      go_wp2
      go_ret
      exact ⟨by first | rfl | simp, hfin⟩

theorem own : ownKnob Try.prog.godebug = none := by kernel_rfl
theorem laidOut : laidOutB Try.prog = true := by kernel_rfl

set_option maxRecDepth 100000 in
theorem contract (H : Type) (enc : TypeId × Value → H) (W : World) (base : Nat) (args : Array Value) (ds gs : List (DataW H)) (before : List MemPlace)
    (hval0 : ∀ (j : Nat) t v, Try.f3.params[j]? = some t → args[j]? = some v → Value.okWide Try.prog W .any base t v)
    (hW : DataW.Whole enc Try.prog Try.f3.params.toList Rows.netOwnSpec.vars false W args.toList ds gs before) (hk : Rows.uptoSmall H (ds ++ gs) = true) :
    Calls Try.prog 3 args W fun e W' => ∃ v, e = .returned v ∧ Rows.netOwnSpec.post enc Try.prog Try.f3 false true false false W args v W' := by
  have hval : ∀ (j : Nat) t v, Try.f3.params[j]? = some t → args[j]? = some v → Value.okWide Try.prog W .any base t v := hval0
  have hW' := hW
  obtain ⟨p, q, hA0, hV, rfl, hfz, hnd⟩ := hW
  have hA : DataW.TrodAll enc Try.prog W 0 (fun _ => true) true Try.f3.params.toList args.toList ds p := hA0
  rw [Try.params3] at hA hval
  obtain ⟨v0, vs0, d0, ds0, p0, q0, hargs, rfl, rfl, h0, r0⟩ := trodAll_cons hA
  obtain ⟨v1, vs1, d1, ds1, p1, q1, rfl, rfl, rfl, h1, r1⟩ := trodAll_cons r0
  obtain ⟨rfl, rfl, rfl⟩ := trodAll_nil r1
  obtain rfl : args = #[v0, v1] := by cases args; simp_all
  obtain ⟨rfl, rfl⟩ := trodVars_none hV
  obtain ⟨N0, A0, c0, l0, dd0, rfl, hN0, hG0, hb0, rfl, hd0⟩ := open_net Try.underlying24 (by kernel_rfl) (by kernel_rfl) Try.underlying3 Try.underlying22 Try.underlying27 (by kernel_rfl) (by kernel_rfl) Try.underlying3 Try.underlying3 Try.underlying3 (hval 0 24 v0 rfl rfl) h0
  obtain ⟨A1, c1, l1, rfl, hG1, hd1, hb1⟩ := open_sl1 Try.underlying25 Try.underlying3 (by kernel_rfl) (hval 1 25 v1 rfl rfl) h1
  have hbulk := bulk_bound hk
  simp only [List.cons_append, List.nil_append, List.append_nil, Rows.uptoBulkAll] at hbulk
  have hq0 := bulk_agg2 (x := .lit (.int .i64 N0)) hd0
  have hq1 := bulk_len hd1
  refine (walk W N0 A0 c0 l0 hG0 A1 c1 l1 hG1 hb1 (by omega)).mono fun e W' ⟨he, hB⟩ => ?_
  subst he
  exact ⟨_, rfl, post_of_law laidOut rfl Try.underlying4 rfl (by intro t ht; rw [Try.params3] at ht; simp at ht; rcases ht with rfl | rfl <;> exact ⟨by kernel_rfl, of_decide_eq_true (by kernel_rfl)⟩) hW' rfl hB⟩

set_option maxRecDepth 100000 in
theorem lifted (os : Os) (started : os.Started) (H : Type) (enc : TypeId × Value → H) (F : Stop.Interp) :
    ReturnsInHanded {} Try.checked os 3 .any ((Rows.OpenSpec.upto Rows.netOwnSpec).pre6 enc Try.prog Try.f3 Rows.netOwnUptoRow.domain false) (((Rows.OpenSpec.upto Rows.netOwnSpec).at F).post enc Try.prog Try.f3 false true false false) := by
  refine returnsInHanded_of_cond (C := Try.checked) (s := Rows.OpenSpec.upto Rows.netOwnSpec) (k := Rows.uptoSmall) rfl own started (by kernel_rfl) Try.func3
    (OpenSpec.witness (enc := enc) (C := Try.checked) (s := Rows.OpenSpec.upto Rows.netOwnSpec) (k := Rows.uptoSmall) rfl false ⟨#[], #[.agg #[.int .i64 0, .slice none 0 0], .slice none 0 0], []⟩ 8 (by kernel_rfl) (by kernel_rfl) (by kernel_rfl)
      (x := ([.agg [.lit (.int .i64 0), .nil], .nil], [], [])) (by kernel_rfl) rfl (by kernel_rfl)) ?_
  intro W base args ds gs before hval hW _ hk _
  exact contract H enc W base args ds gs before hval hW hk

theorem holds : Rows.NetOwnUptoSaid :=
  OpenClaim.holds_of_cond 3 Try.f3 rfl rfl rfl rfl rfl rfl rfl ⟨rfl, rfl, rfl, rfl, rfl⟩ rfl rfl rfl rfl rfl (by kernel_rfl) Try.func3 (by kernel_rfl)
    (of_decide_eq_true (by kernel_rfl)) (by unfold Func.isWrapper; first | (rw [if_pos (by decide +kernel)]; kernel_rfl) | (rw [if_neg (by decide +kernel)]; exact ⟨rfl, rfl⟩))
    (fun os started H enc _ F => lifted os started H enc F)
#print axioms holds
end Go.Proofs.Ytlcgkbkmfelcfaa.NetOwnLaw
