/- For every net, two places and two numbers: YenWithout answers true (a way that is best without an edge is told, or costs no less than the last that is), and the arguments read as before. -/
import Derived.Test.YtamphgcpfncenaaRows
import Derived.Test.YtamphgcpfncenaaVOpen
import Derived.Test.YtamphgcpfncenaaVYenUse
import Derived.Test.YtamphgcpfncenaaVYenFirst
import Derived.Test.YtamphgcpfncenaaVDijkTwo
import Derived.Test.YtamphgcpfncenaaVStarKeep
import Derived.Test.YtamphgcpfncenaaVWithin
import Derived.Test.YtamphgcpfncenaaVConcatEdge
import Derived.Test.YtamphgcpfncenaaVYenFnL
import Derived.Deep.RegionHeld3
import Derived.Deep.CutRange
import Derived.BigQuiet
namespace Go.Proofs.Ytamphgcpfncenaa.YenWithoutLaw
open Go.ChangeShapes Go.WideShapes Go.ChangeAt Go.RowKit Go.Proofs.Ytamphgcpfncenaa NetLaw BellLaw DijkLaw WalkLaw YenLaw Go.Proofs.Ytamphgcpfncenaa.Net Go.Proofs.Ytamphgcpfncenaa.Std Go.Proofs.Ytamphgcpfncenaa.Refs Go.Proofs.Ytamphgcpfncenaa.Yen Go.Proofs.Ytamphgcpfncenaa.HeapW
set_option linter.unusedSimpArgs false
set_option linter.unusedVariables false
/-- the list without one -/
def wo (l : List E) (i : Nat) : List E := l.take i ++ l.drop (i + 1)
theorem wo_mem {l : List E} {i : Nat} {e : E} (h : e ∈ wo l i) : e ∈ l := by
  unfold wo at h
  rcases List.mem_append.1 h with h | h
  · exact List.mem_of_mem_take h
  · exact List.mem_of_mem_drop h
theorem wo_len {l : List E} {i : Nat} (h : i < l.length) : (wo l i).length = l.length - 1 := by
  unfold wo
  rw [List.length_append, List.length_take, List.length_drop]
  omega
theorem wo_good {N : Int} {l : List E} {i : Nat} (h : NetLaw.Good N l) : NetLaw.Good N (wo l i) :=
  ⟨h.lo, h.hi, by unfold wo; rw [List.length_append, List.length_take, List.length_drop]; have := h.len; omega, fun e he => h.ends e (wo_mem he), fun e he => h.cost e (wo_mem he)⟩
theorem look_wo {N : Int} {l : List E} {a b : Int} (i : Nat) (h : Dijk.look N l [a, b] = 0) : Dijk.look N (wo l i) [a, b] = 0 := by
  obtain ⟨hg, hc, ⟨a0, a1⟩, b0, b1⟩ := DijkWay.looks_zero h
  have h1 := wo_good (i := i) hg
  have h2 : ∀ e ∈ wo l i, 1 ≤ e.2.2 := fun e he => hc e (wo_mem he)
  unfold Dijk.look
  have hp : Dijk.pos N (wo l i) = 0 := by
    unfold Dijk.pos
    rw [chk_zero.2 h1, if_neg (by decide)]
    have key : ∀ r : List E, (∀ e ∈ r, 1 ≤ e.2.2) → Dijk.posE r = 0 := fun r => by
      induction r with
      | nil => intro _; rfl
      | cons e r ih =>
        intro hr
        simp only [Dijk.posE]
        rw [if_neg (by have := hr e (by simp); omega)]
        exact ih (fun x hx => hr x (by simp [hx]))
    exact key _ h2
  rw [if_neg (by simp [hp])]
  simp only [Dijk.lookE]
  rw [if_neg (by omega), if_neg (by omega)]
theorem ok_sub {l l' : List E} (h : ∀ e ∈ l', e ∈ l) {ps : List (Int × Int)} (ho : okP l' ps = true) : okP l ps = true := by
  unfold okP at ho ⊢
  rw [List.all_eq_true] at ho ⊢
  intro q hq
  obtain ⟨e, he, e1, e2, _⟩ := YenOn.eg_mem (ho q hq)
  obtain ⟨_, k2, _⟩ := WayLaw.eg_fold q.1 q.2 l (0, false)
  exact (k2 e (h e he) e1 e2).1
theorem sl_dropE {w : World} {B b off : Nat} {l : List E} (h : Sl w B 3 ce (some ⟨b, off, none⟩) l) (k : Nat) (hk : k < l.length) : Sl w B 3 ce (some ⟨b, off + k * 3, none⟩) (l.drop k) := by
  intro hl
  obtain ⟨b', off', hA, hb, hc⟩ := h (by omega)
  injection hA with hA
  injection hA with h1 h2
  subst h1 h2
  refine ⟨b, off + k * 3, rfl, hb, fun i hi j hj => ?_⟩
  rw [List.length_drop] at hi
  have := hc (k + i) (by omega) j hj
  rw [List.getElem_drop]
  rw [← this]
  congr 2
  omega
theorem concat_wo (bo oo c i m : Nat) (AD : Option Addr) (l : List E) (hm : l.length = m) (him : i < m) (hm6 : m ≤ 600) (hAD : AD ≠ none ∧ (i + 1 < m → AD = some ⟨bo, oo + (i + 1) * 3, none⟩)) (c2 : Nat) (W : World) (g : Nat) (hS : Sl W W.heap.size 3 ce (some ⟨bo, oo, none⟩) l) (c0 : W.cell? ⟨g, 0, none⟩ = some (.slice (some ⟨bo, oo, none⟩) i c)) (c1 : W.cell? ⟨g, 1, none⟩ = some (.slice AD (m - (i + 1)) c2)) (hg : g < W.heap.size) :
    Calls Try.prog 33 #[.slice (some ⟨g, 0, none⟩) 2 2] W fun e w' => ∃ A5 c5, e = .returned (.slice A5 (m - 1) c5) ∧ Own w' W.heap.size 27 3 ce (.slice A5 (m - 1) c5) (wo l i) ∧ Below W.heap.size W w' := by
  have hsd : Sl W W.heap.size 3 ce AD (l.drop (i + 1)) := by
    by_cases hlast : i + 1 < m
    · rw [hAD.2 hlast]
      exact sl_dropE hS (i + 1) (by omega)
    · intro h
      rw [List.length_drop] at h
      omega
  have key := concat2E g 2 (some ⟨bo, oo, none⟩) AD i (m - (i + 1)) c c2 (l.take i) (l.drop (i + 1)) W c0 c1 hg (sl_take hS i) hsd (by rw [List.length_take]; omega) (by rw [List.length_drop]; omega) (fun h => (nomatch h)) (fun h => absurd h hAD.1) (by omega)
  rw [show i + (m - (i + 1)) = m - 1 by omega] at key
  exact key
theorem undrew {B : Nat} {w w' : World} (h : Below B w.drew w') : Below B w w' := ⟨h.os, h.tape, h.output, h.size, h.block⟩
theorem cell_two {W : World} {cs : Array Value} {t : TypeId} {g : Nat} (hg : W.heap.size = g) (j : Nat) : ((W.alloc (.cells cs t)).drew).cell? ⟨g, j, none⟩ = cs[j]? := by
  subst hg
  exact blk_cell (heap_alloc_new W (.cells cs t)) j
/-- the net without an edge: its box, its edges -/
structure In (w0 wx : World) (N : Int) (n c X : Nat) (A : Option Addr) (l : List E) : Prop where
  box : wx.heap[X]? = some (.cells #[.int .i64 N, .slice A n c] 24 (0, 0))
  own : Own wx w0.heap.size 27 3 ce (.slice A n c) l
  below : Below w0.heap.size w0 wx
  le : w0.heap.size ≤ X
theorem in_alloc {w0 wd : World} {N : Int} {n b c : Nat} {A : Option Addr} {l : List E} (own : Own wd b 27 3 ce (.slice A n c) l) (hb : w0.heap.size ≤ b) (HB : Below w0.heap.size w0 wd) : In w0 (wd.alloc (.cells #[.int .i64 N, .slice A n c] 24)) N n c wd.heap.size A l :=
  ⟨heap_alloc_new wd _, (own.mono hb).alloc _, HB.alloc HB.size _, HB.size⟩
theorem in_set {w0 wd : World} {N : Int} {n b c X : Nat} {A : Option Addr} {l : List E} (own : Own wd b 27 3 ce (.slice A n c) l) (hb : w0.heap.size ≤ b) (HB : Below w0.heap.size w0 wd) (hX : w0.heap.size ≤ X) {x y : Value} (m : wd.heap[X]? = some (.cells #[x, y] 24 (0, 0))) :
    In w0 ((wd.setCell ⟨X, 0, none⟩ (.int .i64 N)).setCell ⟨X, 1, none⟩ (.slice A n c)) N n c X A l := by
  have hne := own.ne_ m (by decide)
  refine ⟨blk_set (blk_set m 0 (.int .i64 N)) 1 (.slice A n c), ((own.mono hb).setCell hne _).setCell hne _, (HB.setCell hX _).setCell hX _, hX⟩

set_option maxRecDepth 100000 in
set_option maxHeartbeats 8000000 in
theorem walk (w : World) (N : Int) (A : Option Addr) (c : Nat) (l : List E) (hA : Arg w 3 ce A c l) (a : Int) (ha : -9223372036854775808 ≤ a ∧ a ≤ 9223372036854775807) (b : Int) (hb : -9223372036854775808 ≤ b ∧ b ≤ 9223372036854775807) (k : Int) (hk : -9223372036854775808 ≤ k ∧ k ≤ 9223372036854775807) (j : Int) (hj : -9223372036854775808 ≤ j ∧ j ≤ 9223372036854775807) :
    Calls Try.prog 8 #[.agg #[.int .i64 N, .slice A l.length c], .int .i64 a, .int .i64 b, .int .i64 k, .int .i64 j] w fun e w' => e = .returned (.bool true) ∧ Below w.heap.size w w' := by
  have hs := hA.sl
  have hcap := hA.cap
  have hnil := hA.nil
  have hll : l.length ≤ 9223372036854775807 := Nat.le_trans hA.cap hA.max
  have hcm : c ≤ 9223372036854775807 := hA.max
  clear hA ha hb hj hk
  have hw0 : Below w.heap.size w (w.alloc (.cells #[.int .i64 N, .slice A l.length c] 24)) := (Below.refl _ _).alloc (Nat.le_refl _) _
  have hkeep : ∀ W, Below (w.heap.size + 1) (w.alloc (.cells #[.int .i64 N, .slice A l.length c] 24)) W → (W.cell? ⟨w.heap.size, 0, none⟩ = some (.int .i64 N) ∧ W.cell? ⟨w.heap.size, 1, none⟩ = some (.slice A l.length c)) ∧ w.heap.size + 1 ≤ W.heap.size ∧ Sl W W.heap.size 3 ce A l ∧ Below w.heap.size w W := fun W hW => by
    obtain ⟨cc, _⟩ := keepAt hW (Nat.lt_succ_self _)
    have q0 := cc 0
    have q1 := cc 1
    simp at q0 q1
    have H := hw0.trans (hW.mono (Nat.le_succ _))
    have hz := hW.size
    simp at hz
    exact ⟨⟨q0, q1⟩, by omega, (hs.keep H (Nat.le_refl _)).more H.size, H⟩
  have HK := Lib.hid hkeep
  clear hkeep hw0 hs
  go_enter Try.func8, Try.ntmps8
  go_wp2_with fail
  refine (two_any _).mono ?_
  rintro e w1 ⟨g, rfl, own1, hb1⟩
  have B1 : Below (w.heap.size + 1) (w.alloc (.cells #[.int .i64 N, .slice A l.length c] 24)) w1 := hb1.mono (by simp)
  have kk := k_any 2 0 1 1 (some ⟨g, 0, none⟩) 1 [(0, 1, 5)] w1 own1.sl.2 (by decide)
  have KK := Lib.hid kk
  have HB1 := Lib.hid B1
  clear hb1 kk own1 B1
  go_wp2_with fail
  refine KK.out.mono ?_
  rintro e w2 ⟨A2, m2, c2, O2, er2, rfl, hb2, hm2, hown2, hrd2, hkf2⟩
  obtain ⟨rfl, hO2⟩ := kf_two hkf2.out (by decide)
  obtain ⟨rfl, x2, rfl⟩ := one_of hO2 hm2.out (fun x hx => (hrd2.out x hx).2)
  have B2 := HB1.out.trans (hb2.out.mono (HK.out _ HB1.out).2.1)
  obtain ⟨⟨q0, q1⟩, Z2, sg, _⟩ := HK.out _ B2
  have HB2 := Lib.hid B2
  have ky := k_any N a b k A c l w2 sg hll
  have KY := Lib.hid ky
  clear KK hb2 hm2 hown2 hrd2 hkf2 hO2 B2 HB1 ky sg
  go_wp2_with fail
  refine KY.out.mono ?_
  rintro e w3 ⟨Ao, mo, co, O, er, rfl, hb3, HMO, HOWN, HRD, HKF⟩
  have B3 := HB2.out.trans (hb3.out.mono Z2)
  have HB3 := Lib.hid B3
  obtain ⟨⟨q0, q1⟩, Z3, _, H3⟩ := HK.out _ B3
  have HF3 := Lib.hid H3
  clear KY hb3 B3 HB2 H3
  by_cases her : er = 0
  · subst her
    rcases HKF.out with ⟨h1, h2, _⟩ | ⟨_, _, h2, _⟩ | ⟨hlk, hk1, hk8, n, s, t, rfl, rfl, rfl, hT, hOO⟩
    · exact absurd h2.symm h1
    · exact absurd h2 (by decide)
    have hO : O ≠ [] := by
      rcases hOO with ⟨_, h⟩ | ⟨h, _⟩
      · exact absurd h (by decide)
      · exact h
    have hm1 : 1 ≤ mo := by
      rw [← HMO.out]
      cases O with
      | nil => exact absurd rfl hO
      | cons x r => simp
    obtain ⟨hgood, hpos, ⟨s0, s1⟩, t0, t1⟩ := DijkWay.looks_zero hlk
    have htn : t < n := by omega
    have hsn : s < n := by omega
    have hl600 := hgood.len
    have HG := Lib.hid hgood
    have HPOS := Lib.hid hpos
    have HT := Lib.hid hT
    have HLK := Lib.hid hlk
    obtain ⟨m, hm⟩ : ∃ m, l.length = m := ⟨_, rfl⟩
    have HM := Lib.hid hm
    rw [hm] at hl600 hcap q1 ⊢
    clear hOO hO HKF hgood hpos hT hlk s0 s1 t0 t1 hm hll
    by_cases hm0 : m = 0
    · subst hm0
      have hz1 : (mo : Int) > 0 := by omega
      go_wp2
      go_ret
      exact ⟨by simp; omega, HF3.out⟩
    · have hz0 : ((m : Int) == 0) = false := beq_eq_false_iff_ne.2 (by omega)
      have hz1 : ((mo : Int) == 0) = false := beq_eq_false_iff_ne.2 (by omega)
      have kwi := Within.within_any j m (by omega) (by omega) w3
      have him := (Within.wi_spec j m (by omega) (by omega)).2
      generalize Within.wi j m = i at kwi him
      have KWI := Lib.hid kwi
      clear kwi hm0
      go_wp2_with fail
      refine KWI.out.mono ?_
      rintro e w4 ⟨rfl, hw4⟩
      subst hw4
      clear KWI
      have hsg : ∀ W, Below w4.heap.size w4 W → (W.cell? ⟨w.heap.size, 0, none⟩ = some (.int .i64 n) ∧ W.cell? ⟨w.heap.size, 1, none⟩ = some (.slice A m c)) ∧ Sl W W.heap.size 3 ce A l := fun W hW => by
        obtain ⟨⟨a0, a1⟩, _, a2, _⟩ := HK.out W (HB3.out.trans (hW.mono Z3))
        rw [HM.out] at a1
        exact ⟨⟨a0, a1⟩, a2⟩
      obtain ⟨bo, oo, hA, _, _⟩ := (hsg w4 (Below.refl _ _)).2 (by rw [HM.out]; omega)
      subst hA
      have KS := Lib.hid hsg
      have kc := fun (W : World) (g : Nat) (AD : Option Addr) (c2 : Nat) (hAD : AD ≠ none ∧ (i + 1 < m → AD = some ⟨bo, oo + (i + 1) * 3, none⟩)) (hW : Below w4.heap.size w4 W) (c0 : W.cell? ⟨g, 0, none⟩ = some (.slice (some ⟨bo, oo, none⟩) i c)) (c1 : W.cell? ⟨g, 1, none⟩ = some (.slice AD (m - (i + 1)) c2)) (hg : g < W.heap.size) => concat_wo bo oo c i m AD l HM.out him hl600 hAD c2 W g (KS.out W hW).2 c0 c1 hg
      have KC := Lib.hid kc
      have z1 : (i : Int) ≤ (c : Int) := by omega
      have z2 : (i : Int) + 1 ≤ (m : Int) := by omega
      have z3 : i ≤ c := by omega
      have z4 : i + 1 ≤ m := by omega
      have z5 : (0 : Int) ≤ (i : Int) := by omega
      have z6 : i + 1 ≤ c := by omega
      have z7 : IntKind.i64.wrap ((i : Int) + 1) = (i : Int) + 1 := IntWalk.i64_in _ (by omega)
      have z8 : (i : Int) + 1 ≤ (c : Int) := by omega
      have z9 : (0 : Int) ≤ (i : Int) + 1 := by omega
      have z10 : ((i : Int) + 1).toNat = i + 1 := by omega
      have z11 : (m : Int) ≤ (c : Int) := by omega
      clear hsg kc q0 q1
      go_upto_region 8 with fail
      obtain ⟨⟨q0, q1⟩, _⟩ := KS.out w4 (Below.refl _ _)
      go_cut [15] from 65 to 78 (fun s15 wx => ∃ (X c' : Nat) (A' : Option Addr), s15 = .pointer (some ⟨X, 0, none⟩) ∧ Hid (In w4 wx n (m - 1) c' X A' (wo l i)))
      case first =>
        have hzz : w.heap.size < w4.heap.size := by omega
        by_cases hce : c = i + 1
        · have had : (some ⟨bo, oo, none⟩ : Option Addr) ≠ none ∧ (i + 1 < m → (some ⟨bo, oo, none⟩ : Option Addr) = some ⟨bo, oo + (i + 1) * 3, none⟩) := ⟨by simp, fun h => by omega⟩
          have HAD := Lib.hid had
          have hce' : (c = i + 1) = True := eq_true hce
          clear hce had
          go_region_held3 (fun w' => w'.cell? ⟨w.heap.size, 0, none⟩ = some (.int .i64 n) ∧ w'.cell? ⟨w.heap.size, 1, none⟩ = some (.slice (some ⟨bo, oo, none⟩) m c))
            (first
              | go_keep
              | exact ⟨p0, p1⟩
              | exact ⟨(World.cell?_setCell_far _ _ _ _ (by dsimp only; omega)).trans ((World.cell?_setCell_far _ _ _ _ (by dsimp only; omega)).trans p0), (World.cell?_setCell_far _ _ _ _ (by dsimp only; omega)).trans ((World.cell?_setCell_far _ _ _ _ (by dsimp only; omega)).trans p1)⟩)
            (first
              | (go_at_call 33; refine (KC.out _ _ _ _ HAD.out (by first | exact ((Below.refl _ _).alloc (Nat.le_refl _) _).drew | exact (((Below.refl _ _).alloc (Nat.le_refl _) _).alloc (by simp) _).drew) (by first | exact blk_cell (heap_alloc_new w4 _) 0 | exact blk_cell (blk_alloc (heap_alloc_new w4 _) _) 0 | exact cell_two (by simp) 0) (by first | exact blk_cell (heap_alloc_new w4 _) 1 | exact blk_cell (blk_alloc (heap_alloc_new w4 _) _) 1 | exact cell_two (by simp) 1) (by first | (simp; done) | (simp; omega))).mono ?_; rintro e wd ⟨A5, c5, rfl, own7, hb7⟩; have HB7 : Below w4.heap.size w4 wd := (by first | exact ((Below.refl _ _).alloc (Nat.le_refl _) _).drew.trans (hb7.mono (by simp)) | exact (((Below.refl _ _).alloc (Nat.le_refl _) _).alloc (by simp) _).drew.trans (hb7.mono (by first | (simp; done) | (simp; omega)))); obtain ⟨⟨p0, p1⟩, _⟩ := KS.out _ HB7; (first | (have m4 : wd.heap[w4.heap.size]? = some (.cells #[.int .i64 0, .slice none 0 0] 24 (0, 0)) := blk_below (blk_alloc (heap_alloc_new w4 _) _) (undrew hb7) (by first | (simp; done) | (simp; omega)); have m40 := blk_cell m4 0; have m41 := blk_cell m4 1; have mf0 := blk_free m4 0; have mf1 := blk_free m4 1; simp only [List.getElem?_toArray, List.getElem?_cons_zero, List.getElem?_cons_succ] at m40 m41) | (have m4 : wd.heap[w4.heap.size + 1]? = some (.cells #[.int .i64 0, .slice none 0 0] 24 (0, 0)) := (by have h := blk_below (heap_alloc_new (w4.alloc _) _) (undrew hb7) (by first | (simp; done) | (simp; omega)); simpa using h); have m40 := blk_cell m4 0; have m41 := blk_cell m4 1; have mf0 := blk_free m4 0; have mf1 := blk_free m4 1; simp only [List.getElem?_toArray, List.getElem?_cons_zero, List.getElem?_cons_succ] at m40 m41) | skip)))
          all_goals
            go_wp2_with fail
            go_meet
            refine ⟨_, c5, A5, rfl, Lib.hid ?_⟩
            first
              | exact in_alloc own7 (by first | (simp; done) | (simp; omega)) HB7
              | exact in_set own7 (by first | (simp; done) | (simp; omega)) HB7 (by omega) m4
        · have had : (some ⟨bo, oo + (i + 1) * 3, none⟩ : Option Addr) ≠ none ∧ (i + 1 < m → (some ⟨bo, oo + (i + 1) * 3, none⟩ : Option Addr) = some ⟨bo, oo + (i + 1) * 3, none⟩) := ⟨by simp, fun _ => rfl⟩
          have HAD := Lib.hid had
          have hce' : (c = i + 1) = False := eq_false hce
          clear hce had
          go_region_held3 (fun w' => w'.cell? ⟨w.heap.size, 0, none⟩ = some (.int .i64 n) ∧ w'.cell? ⟨w.heap.size, 1, none⟩ = some (.slice (some ⟨bo, oo, none⟩) m c))
            (first
              | go_keep
              | exact ⟨p0, p1⟩
              | exact ⟨(World.cell?_setCell_far _ _ _ _ (by dsimp only; omega)).trans ((World.cell?_setCell_far _ _ _ _ (by dsimp only; omega)).trans p0), (World.cell?_setCell_far _ _ _ _ (by dsimp only; omega)).trans ((World.cell?_setCell_far _ _ _ _ (by dsimp only; omega)).trans p1)⟩)
            (first
              | (go_at_call 33; refine (KC.out _ _ _ _ HAD.out (by first | exact ((Below.refl _ _).alloc (Nat.le_refl _) _).drew | exact (((Below.refl _ _).alloc (Nat.le_refl _) _).alloc (by simp) _).drew) (by first | exact blk_cell (heap_alloc_new w4 _) 0 | exact blk_cell (blk_alloc (heap_alloc_new w4 _) _) 0 | exact cell_two (by simp) 0) (by first | exact blk_cell (heap_alloc_new w4 _) 1 | exact blk_cell (blk_alloc (heap_alloc_new w4 _) _) 1 | exact cell_two (by simp) 1) (by first | (simp; done) | (simp; omega))).mono ?_; rintro e wd ⟨A5, c5, rfl, own7, hb7⟩; have HB7 : Below w4.heap.size w4 wd := (by first | exact ((Below.refl _ _).alloc (Nat.le_refl _) _).drew.trans (hb7.mono (by simp)) | exact (((Below.refl _ _).alloc (Nat.le_refl _) _).alloc (by simp) _).drew.trans (hb7.mono (by first | (simp; done) | (simp; omega)))); obtain ⟨⟨p0, p1⟩, _⟩ := KS.out _ HB7; (first | (have m4 : wd.heap[w4.heap.size]? = some (.cells #[.int .i64 0, .slice none 0 0] 24 (0, 0)) := blk_below (blk_alloc (heap_alloc_new w4 _) _) (undrew hb7) (by first | (simp; done) | (simp; omega)); have m40 := blk_cell m4 0; have m41 := blk_cell m4 1; have mf0 := blk_free m4 0; have mf1 := blk_free m4 1; simp only [List.getElem?_toArray, List.getElem?_cons_zero, List.getElem?_cons_succ] at m40 m41) | (have m4 : wd.heap[w4.heap.size + 1]? = some (.cells #[.int .i64 0, .slice none 0 0] 24 (0, 0)) := (by have h := blk_below (heap_alloc_new (w4.alloc _) _) (undrew hb7) (by first | (simp; done) | (simp; omega)); simpa using h); have m40 := blk_cell m4 0; have m41 := blk_cell m4 1; have mf0 := blk_free m4 0; have mf1 := blk_free m4 1; simp only [List.getElem?_toArray, List.getElem?_cons_zero, List.getElem?_cons_succ] at m40 m41) | skip)))
          all_goals
            go_wp2_with fail
            go_meet
            refine ⟨_, c5, A5, rfl, Lib.hid ?_⟩
            first
              | exact in_alloc own7 (by first | (simp; done) | (simp; omega)) HB7
              | exact in_set own7 (by first | (simp; done) | (simp; omega)) HB7 (by omega) m4
      case rest =>
        obtain ⟨X, c', A', rfl, HIN⟩ := hcut
        have hlk2 := look_wo (a := (s : Int)) (b := (t : Int)) i HLK.out
        have hwl : (wo l i).length = m - 1 := by rw [wo_len (by rw [HM.out]; exact him), HM.out]
        have kwy := DijkWay.way_any n A' c' (wo l i) s t wc HIN.out.own.sl.2 (by omega)
        rw [hwl] at kwy
        have x0 := blk_cell HIN.out.box 0
        have x1 := blk_cell HIN.out.box 1
        simp only [List.getElem?_toArray, List.getElem?_cons_zero, List.getElem?_cons_succ] at x0 x1
        have B5 := HB3.out.trans (HIN.out.below.mono Z3)
        have Z5 := (HK.out _ B5).2.1
        have hb5 := HIN.out.below
        have KWY := Lib.hid kwy
        have HLK2 := Lib.hid hlk2
        have HB5 := Lib.hid B5
        have HB45 := Lib.hid hb5
        clear hlk2 hwl kwy B5 hb5 HIN KS KC q0 q1 HLK hz0 hz1
        go_wp2_with fail
        refine KWY.out.mono ?_
        rintro e w6 ⟨_, hws, hb6⟩
        obtain ⟨D, hD, hfar, hnear⟩ := hws HLK2.out
        have B6 := HB5.out.trans (hb6.mono Z5)
        have Z6 := (HK.out _ B6).2.1
        have HB6 := Lib.hid B6
        have hb46 := HB45.out.trans (hb6.mono HB45.out.size)
        clear hws B6 KWY x0 x1
        have hlo := (hD.lo t (by omega) (by omega)).2
        by_cases hdf : dg D (t : Int) = far
        · obtain rfl := hfar hdf
          have HF := Lib.hid (HK.out _ (HB6.out.alloc Z6 (.cells #[.slice none 0 0, .int .i64 0] 36))).2.2.2
          clear hfar hnear hD hdf hlo
          go_wp2
          go_ret
          exact ⟨by simp, HF.out⟩
        · obtain ⟨Ap, cp, p, rfl, ownp, hwy⟩ := hnear (by omega)
          rw [Int.toNat_natCast] at hwy
          have hsm : Smp n (wo l i) s t p := by
            obtain ⟨h1, _⟩ := WayLaw.links_cost hD p s t hwy.head hwy.last (fun z hz => (hwy.rng z hz).2.2) hwy.link
            exact ⟨hwy.head, hwy.last, hwy.nd, fun v hv => ⟨(hwy.rng v hv).1, (hwy.rng v hv).2.1⟩, h1⟩
          have hsl : Smp n l s t p := ⟨hsm.head, hsm.last, hsm.nd, hsm.rng, ok_sub (fun e he => wo_mem he) hsm.ok⟩
          have hpl := hsl.len
          have hgn := HG.out.hi
          have hcost := hsl.cost (chk_zero.2 HG.out) (by omega)
          obtain ⟨kp, hkp⟩ : ∃ kp, p.length = kp := ⟨_, rfl⟩
          rw [hkp] at ownp hpl ⊢
          obtain ⟨dt, hdt⟩ : ∃ dt, dg D (t : Int) = dt := ⟨_, rfl⟩
          rw [hdt]
          have own7 := ownp.alloc (.cells #[.slice Ap kp cp, .int .i64 dt] 36)
          have hbx7 := heap_alloc_new w6 (.cells #[.slice Ap kp cp, .int .i64 dt] 36)
          have B7 := HB6.out.alloc Z6 (.cells #[.slice Ap kp cp, .int .i64 dt] 36)
          have hrow : YenF.WRow w4 Ao O := ⟨HOWN.out.sl.2, fun x hx => ⟨_, (HRD.out x hx).1⟩⟩
          have hrow7 := hrow.keep (hb46.alloc hb46.size (.cells #[.slice Ap kp cp, .int .i64 dt] 36))
          -- the plain law
          have hkt := HT.out
          have hmo' := HMO.out
          have hlast : ∀ x ∈ O, p ∉ O.map (·.2.2) → (mo : Int) = k ∧ x.2.1 ≤ wt l p := fun x hx hnp => by
            refine ⟨?_, ?_⟩
            · rcases hkt.all with h1 | h1
              · rw [List.length_map, hmo'] at h1; omega
              · exact absurd (h1 p hsl) hnp
            · have h1 := hkt.low p hsl hnp x.2.2 (List.mem_map.2 ⟨x, hx, rfl⟩)
              rw [ltY_iff] at h1
              unfold ky at h1
              simp only at h1
              have h2 := (HRD.out x hx).2
              omega
          have HLAST := Lib.hid hlast
          have HCO := Lib.hid hcost
          have HKP := Lib.hid hkp
          have HROW7 := Lib.hid hrow7
          have HBX7 := Lib.hid hbx7
          have HOWN7 := Lib.hid own7
          have HB7 := Lib.hid B7
          clear hfar hnear hD hdf hlo ownp hwy hsm hsl hcost hkp hdt own7 hbx7 B7 hrow hrow7 hkt hmo' hlast hb46 hb6 HOWN HB45 HB5 HB6
          go_upto_region 12 with fail
          generalize w6.alloc (.cells #[.slice Ap kp cp, .int .i64 dt] 36) = w7 at *
          generalize w6.heap.size = BW at *
          obtain ⟨⟨q0, q1⟩, Z7, sg7, _⟩ := HK.out _ HB7.out
          rw [HM.out] at q1
          have x0 := blk_cell HBX7.out 0
          simp only [List.getElem?_toArray, List.getElem?_cons_zero, List.getElem?_cons_succ] at x0
          have kco := Walk.cost_any n (some ⟨bo, oo, none⟩) c l Ap cp p w7 sg7 (HOWN7.out.sl.2) (by rw [HM.out]; omega) (by rw [HKP.out]; omega)
          rw [HCO.out, HM.out, HKP.out] at kco
          have KCO := Lib.hid kco
          obtain ⟨wp, hwp⟩ : ∃ wp, wt l p = wp := ⟨_, rfl⟩
          rw [hwp] at KCO HLAST
          clear kco sg7 hwp HCO
          go_wp2_with fail
          refine KCO.out.mono ?_
          rintro e w8 ⟨rfl, hb8⟩
          have hrow8 := HROW7.out.keep hb8
          have hbx8 := blk_below HBX7.out hb8 (lt_of_block HBX7.out)
          have own8 := HOWN7.out.keep hb8
          have B8 := HB7.out.trans (hb8.mono Z7)
          have Z8 := (HK.out _ B8).2.1
          obtain ⟨ml, rfl⟩ : ∃ ml, mo = ml + 1 := ⟨mo - 1, by omega⟩
          obtain ⟨bl, ol, x, xm, pl, rfl, hbl, hel, cx, cm, _, _, _⟩ := hrow8.at_ (k := ml) (by rw [HMO.out]; omega)
          have hxl := HLAST.out ((x, xm, pl) : Pop) (by rw [← hel]; exact List.getElem_mem _)
          obtain ⟨Al, nl, cl⟩ := x
          simp only at cx hxl
          have B9 := B8.alloc Z8 (.cells #[.slice Al nl cl, .int .i64 xm] 36)
          have hrow9 := hrow8.keep ((Below.refl _ _).alloc (Nat.le_refl _) (.cells #[.slice Al nl cl, .int .i64 xm] 36))
          have hbx9 := blk_alloc hbx8 (.cells #[.slice Al nl cl, .int .i64 xm] 36)
          have hlb9 := heap_alloc_new w8 (.cells #[.slice Al nl cl, .int .i64 xm] 36)
          have own9 := own8.alloc (.cells #[.slice Al nl cl, .int .i64 xm] 36)
          have hmo8 : ml ≤ 8 := by have h1 := HT.out.len; rw [List.length_map, HMO.out] at h1; omega
          have hi1 : (ml : Int) + 1 - 1 = (ml : Int) := by omega
          have hi2 : (ml : Int) < (ml : Int) + 1 := by omega
          have hi3 : (0 : Int) ≤ (ml : Int) := by omega
          have hi5 : ml < ml + 1 := by omega
          have HXL := Lib.hid hxl
          have HROW9 := Lib.hid hrow9
          have HBX9 := Lib.hid hbx9
          have HLB9 := Lib.hid hlb9
          have HOWN9 := Lib.hid own9
          have HB9 := Lib.hid B9
          have hz9 : BW < w8.heap.size := lt_of_block hbx8
          clear hxl hrow8 hbx8 own8 B8 hel B9 hrow9 hbx9 hlb9 own9 hb8 KCO HROW7 HBX7 HOWN7 HB7 HLAST q0 q1 x0
          go_upto_region 14 with fail
          generalize w8.alloc (.cells #[.slice Al nl cl, .int .i64 xm] 36) = w9 at HROW9 HBX9 HLB9 HOWN9 HB9 ⊢
          generalize w8.heap.size = Z at HLB9 ⊢
          clear hi1 hi2 hi3 hi5 cx cm
          obtain ⟨bt, hbt⟩ : ∃ bt, decide (p ∈ O.map (·.2.2)) = bt := ⟨_, rfl⟩
          have kct := YenFL.contains_same BW kp cp Ap p dt (some ⟨bl, ol, none⟩) (ml + 1) co O w9 HROW9.out HMO.out HBX9.out HOWN9.out.sl.2 HKP.out (by have h1 := HT.out.len; rw [List.length_map, HMO.out] at h1; omega) bt hbt
          unfold YenFL.fnS at kct
          have KCT := Lib.hid kct
          have HBT := Lib.hid hbt
          clear kct hbt
          go_wp2_with fail
          refine KCT.out.mono ?_
          rintro e w10 ⟨rfl, hb10⟩
          have hl10 := blk_below HLB9.out hb10 (lt_of_block HLB9.out)
          have y1 := blk_cell hl10 1
          simp only [List.getElem?_toArray, List.getElem?_cons_zero, List.getElem?_cons_succ] at y1
          have hZ9 := (HK.out _ HB9.out).2.1
          have HF := Lib.hid (HK.out _ (HB9.out.trans (hb10.mono hZ9))).2.2.2
          clear hl10 hb10 KCT HROW9 HBX9 HLB9 HOWN9 HB9 hZ9
          cases bt with
          | true =>
            go_wp2
            go_ret
            exact ⟨by simp, HF.out⟩
          | false =>
            obtain ⟨hmk, hle⟩ := HXL.out (of_decide_eq_false HBT.out)
            have hz1 : ((ml : Int) + 1 == k) = true := beq_iff_eq.2 (by omega)
            have hz2 : wp ≥ xm := hle
            go_wp2
            go_ret
            exact ⟨by first | (simp [hmk]; done) | (simp [hmk]; omega), HF.out⟩
  · have hO : O = [] := by
      rcases HKF.out with ⟨_, _, h⟩ | ⟨_, _, _, h⟩ | ⟨_, _, _, n, s, t, _, _, _, _, h⟩
      · exact h
      · exact h
      · rcases h with ⟨h, _⟩ | ⟨_, h⟩
        · exact h
        · exact absurd h her
    have hne : (er != 0) = true := by rw [bne_iff_ne]; exact her
    clear hO HKF HRD HOWN HMO her
    go_wp2
    go_ret
    exact ⟨by simp, HF3.out⟩

theorem own : ownKnob Try.prog.godebug = none := by kernel_rfl
theorem laidOut : laidOutB Try.prog = true := by kernel_rfl

set_option maxRecDepth 100000 in
theorem lifted (os : Os) (started : os.Started) (H : Type) (enc : TypeId × Value → H) :
    ReturnsInHanded {} Try.checked os 8 .any (Rows.yenWithoutSpec.pre6 enc Try.prog Try.f8 Rows.yenWithoutRow.domain false) (Rows.yenWithoutSpec.post enc Try.prog Try.f8 false true false false) := by
  refine returnsInHanded_of_change (C := Try.checked) own started (by kernel_rfl) Try.func8
    (ChangeSpec.witness6 (enc := enc) (C := Try.checked) false ⟨#[], #[.agg #[.int .i64 0, .slice none 0 0], .int .i64 0, .int .i64 0, .int .i64 0, .int .i64 0], []⟩ 8 (by kernel_rfl) (by kernel_rfl) (by kernel_rfl) (by kernel_rfl)) ?_
  intro W base args ds gs before hval0 hW hcnd _
  have hval : ∀ (j : Nat) t v, Try.f8.params[j]? = some t → args[j]? = some v → Value.okWide Try.prog W .any base t v := hval0
  have hW' := hW
  obtain ⟨p, q, hA0, hV, rfl, hfz, hnd⟩ := hW
  have hA : DataW.TrodAll enc Try.prog W 0 (fun _ => true) true Try.f8.params.toList args.toList ds p := hA0
  rw [Try.params8] at hA hval
  obtain ⟨v0, vs0, d0, ds0, p0, q0, hargs, rfl, rfl, h0, r0⟩ := trodAll_cons hA
  obtain ⟨v1, vs1, d1, ds1, p1, q1, rfl, rfl, rfl, h1, r1⟩ := trodAll_cons r0
  obtain ⟨v2, vs2, d2, ds2, p2, q2, rfl, rfl, rfl, h2, r2⟩ := trodAll_cons r1
  obtain ⟨v3, vs3, d3, ds3, p3, q3, rfl, rfl, rfl, h3, r3⟩ := trodAll_cons r2
  obtain ⟨v4, vs4, d4, ds4, p4, q4, rfl, rfl, rfl, h4, r4⟩ := trodAll_cons r3
  obtain ⟨rfl, rfl, rfl⟩ := trodAll_nil r4
  obtain rfl : args = #[v0, v1, v2, v3, v4] := by cases args; simp_all
  obtain ⟨rfl, rfl⟩ := trodVars_none hV
  obtain ⟨N0, A0, c0, l0, dd0, rfl, hN0, hG0, hb0, rfl, hd0⟩ := open_net Try.underlying24 (by kernel_rfl) (by kernel_rfl) Try.underlying3 Try.underlying22 Try.underlying27 (by kernel_rfl) (by kernel_rfl) Try.underlying3 Try.underlying3 Try.underlying3 (hval 0 24 v0 rfl rfl) h0
  obtain ⟨a1, rfl, rfl, rfl, wa1⟩ := open_int Try.underlying3 (hval 1 3 v1 rfl rfl) h1
  obtain ⟨a2, rfl, rfl, rfl, wa2⟩ := open_int Try.underlying3 (hval 2 3 v2 rfl rfl) h2
  obtain ⟨a3, rfl, rfl, rfl, wa3⟩ := open_int Try.underlying3 (hval 3 3 v3 rfl rfl) h3
  obtain ⟨a4, rfl, rfl, rfl, wa4⟩ := open_int Try.underlying3 (hval 4 3 v4 rfl rfl) h4
  refine (walk W N0 A0 c0 l0 hG0 a1 (wf_bd wa1) a2 (wf_bd wa2) a3 (wf_bd wa3) a4 (wf_bd wa4)).mono fun e W' ⟨he, hB⟩ => ?_
  subst he
  exact ⟨_, rfl, post_of_law laidOut rfl Try.underlying4 rfl (by intro t ht; rw [Try.params8] at ht; simp at ht; rcases ht with rfl | rfl | rfl | rfl | rfl <;> exact ⟨by kernel_rfl, of_decide_eq_true (by kernel_rfl)⟩) hW' rfl hB⟩

theorem holds : Rows.YenWithoutSaid :=
  OpenClaim.holds_of_wide 8 Try.f8 rfl rfl rfl rfl rfl rfl rfl ⟨rfl, rfl, rfl, rfl, rfl⟩ rfl rfl rfl rfl rfl (by kernel_rfl) Try.func8 (by kernel_rfl)
    (of_decide_eq_true (by kernel_rfl)) (by unfold Func.isWrapper; first | (rw [if_pos (by decide +kernel)]; kernel_rfl) | (rw [if_neg (by decide +kernel)]; exact ⟨rfl, rfl⟩))
    (fun os started H enc _ => lifted os started H enc)
#print axioms holds
end Go.Proofs.Ytamphgcpfncenaa.YenWithoutLaw
