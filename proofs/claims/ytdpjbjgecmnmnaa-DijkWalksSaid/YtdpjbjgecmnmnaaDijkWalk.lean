/- For every net and two places: DijkWalks answers true (a way is a walk without repetitions that costs what it says, which is the least, and there is one just where the place is come to), and the arguments read as before. No condition. -/
import Derived.Test.YtdpjbjgecmnmnaaRows
import Derived.Test.YtdpjbjgecmnmnaaOpen
import Derived.Test.YtdpjbjgecmnmnaaWayUse
import Derived.Test.YtdpjbjgecmnmnaaWalkCost
import Derived.Test.YtdpjbjgecmnmnaaCutWalks
import Derived.IntWalk
namespace Go.Proofs.Ytdpjbjgecmnmnaa.DijkWalksLaw
open Go.ChangeShapes Go.WideShapes Go.ChangeAt Go.RowKit Go.Proofs.Ytdpjbjgecmnmnaa NetLaw BellLaw DijkLaw WayLaw CutLaw Go.Proofs.Ytdpjbjgecmnmnaa.Net Go.Proofs.Ytdpjbjgecmnmnaa.Dijk Go.Proofs.Ytdpjbjgecmnmnaa.DijkTwo Go.Proofs.Ytdpjbjgecmnmnaa.WayUse Go.Proofs.Ytdpjbjgecmnmnaa.Refs Go.Proofs.Ytdpjbjgecmnmnaa.Std
set_option linter.unusedSimpArgs false
set_option linter.unusedVariables false

/-- a cell of a list, by what stands there -/
theorem at_eq {w : World} {B : Nat} {A : Option Addr} {l : List Int} (h : Sl w B 1 ci A l) {k : Nat} {x : Int} (hx : l[k]? = some x) : ∃ b off, A = some ⟨b, off, none⟩ ∧ b < B ∧ w.cell? ⟨b, off + k, none⟩ = some (.int .i64 x) := by
  obtain ⟨hk, rfl⟩ := List.getElem?_eq_some_iff.1 hx
  exact h.atI hk
theorem look01 : Dijk.look 2 [(0, 1, 5)] [0, 1] = 0 := by decide +kernel
theorem wy01 {l : List E} {D : List Int} {p : List Int} (h : Wy 2 l D 0 1 p) : p = [0, 1] := by
  have h1 := h.head
  have h2 := h.last
  have h3 := h.len.1
  match p, h1, h2, h3 with
  | [], h1, _, _ => simp at h1
  | [a], h1, h2, _ => simp at h1 h2; omega
  | [a, b], h1, h2, _ => simp at h1 h2; rw [h1, h2]
  | a :: b :: c :: r, _, _, h3 => simp at h3
theorem way01 (W : World) (g : Nat) (h : Sl W W.heap.size 3 ce (some ⟨g, 0, none⟩) [(0, 1, 5)]) :
    Calls Try.prog 22 #[.agg #[.int .i64 2, .slice (some ⟨g, 0, none⟩) 1 1], .int .i64 0, .int .i64 1] W fun e w' => ∃ A c, e = .returned (.tuple #[.agg #[.slice A 2 c, .int .i64 5], .int .i64 0]) ∧ Own w' W.heap.size 3 1 ci (.slice A 2 c) [0, 1] ∧ Below W.heap.size W w' := by
  refine (DijkWay.way_any 2 (some ⟨g, 0, none⟩) 1 [(0, 1, 5)] 0 1 W h (by decide)).mono ?_
  rintro e w' ⟨_, k2, k3⟩
  obtain ⟨D, hD, _, k4⟩ := k2 look01
  have e1 := sh0.unique hD two_ends two_cost
  subst e1
  obtain ⟨A, c, p, he, ho, hw⟩ := k4 (by decide)
  have hp := wy01 hw
  subst hp
  exact ⟨A, c, he, ho, k3⟩
theorem look_one {N : Int} {l : List E} {a b : Int} (h : Dijk.look N l [a] = 0) (hb : ¬ (b < 0 ∨ N ≤ b)) : Dijk.look N l [a, b] = 0 := by
  unfold Dijk.look at h ⊢
  split at h
  · rename_i h1; exact absurd h h1
  · rename_i h1
    rw [if_neg h1]
    simp only [Dijk.lookE] at h ⊢
    split at h
    · omega
    · rename_i h2; rw [if_neg h2, if_neg hb]
theorem look_bad {N : Int} {l : List E} {a b : Int} (h : Dijk.look N l [a] = 0) (h2 : Dijk.look N l [a, b] ≠ 0) : Dijk.look N l [a, b] = 1 := by
  have hb : b < 0 ∨ N ≤ b := by
    by_cases hb : b < 0 ∨ N ≤ b
    · exact hb
    · exact absurd (look_one h hb) h2
  unfold Dijk.look at h ⊢
  split at h
  · rename_i h1; exact absurd h h1
  · rename_i h1
    rw [if_neg h1]
    simp only [Dijk.lookE] at h ⊢
    split at h
    · omega
    · rename_i h2; rw [if_neg h2, if_pos hb]
theorem look_less {N : Int} {l : List E} {a b : Int} (h : Dijk.look N l [a, b] = 0) : Dijk.look N l [a] = 0 := by
  unfold Dijk.look at h ⊢
  split at h
  · rename_i h1; exact absurd h h1
  · rename_i h1
    rw [if_neg h1]
    simp only [Dijk.lookE] at h ⊢
    split at h
    · omega
    · rename_i h2; rw [if_neg h2]

set_option maxRecDepth 100000 in
set_option maxHeartbeats 4000000 in
theorem walk (w : World) (N : Int) (A : Option Addr) (c : Nat) (l : List E) (hA : Arg w 3 ce A c l) (a : Int) (ha : -9223372036854775808 ≤ a ∧ a ≤ 9223372036854775807) (b : Int) (hb : -9223372036854775808 ≤ b ∧ b ≤ 9223372036854775807) :
    Calls Try.prog 6 #[.agg #[.int .i64 N, .slice A l.length c], .int .i64 a, .int .i64 b] w fun e w' => e = .returned (.bool true) ∧ Below w.heap.size w w' := by
  have hs := hA.sl
  have hll : l.length ≤ 9223372036854775807 := Nat.le_trans hA.cap hA.max
  clear hA
  have hw0 : Below w.heap.size w (w.alloc (.cells #[.int .i64 N, .slice A l.length c] 24)) := (Below.refl _ _).alloc (Nat.le_refl _) _
  have key0 := fun W g h => way01 W g h
  have key1 := fun W A A' c h h' => same_way A A' 2 2 c 2 [0, 1] [0, 1] 5 5 W h h' rfl rfl (by decide) true (by decide)
  have KEY0 := Lib.hid key0
  have KEY1 := Lib.hid key1
  clear key0 key1
  by_cases hex : ∃ D, Dijk.look N l [a, b] = 0 ∧ Sh N a l D ∧ dg D b < far
  · obtain ⟨D, hlk, hD, hbf⟩ := hex
    obtain ⟨hg, hc, ⟨a0, a1⟩, b0, b1⟩ := DijkWay.looks_zero hlk
    have k2 := fun W h => way_some N A c l a b hll D hlk hD hbf W h
    have hN1 := hg.lo
    have hN2 := hg.hi
    obtain ⟨n, rfl⟩ := Int.eq_ofNat_of_zero_le (show 0 ≤ N by omega)
    obtain ⟨f, rfl⟩ := Int.eq_ofNat_of_zero_le a0
    obtain ⟨t, rfl⟩ := Int.eq_ofNat_of_zero_le b0
    have k3 := fun W h => dist_yes n A c l f hll (look_less hlk) W h
    simp only [Int.toNat_natCast] at k2 k3
    have huq := fun (D' : List Int) (h : Sh n f l D') => (h.unique hD hg.ends (fun e he => by have := hc e he; omega) : D' = D)
    have k5 := fun W A' c' (p : List Int) hpl h1 h2 => Walk.cost_any n A c l A' c' p W h1 h2 hll hpl
    have kco := fun (p : List Int) (hw : Wy n l D f t p) => (cost_of hD hg p f t hw.head hw.last (by have := hw.len; omega) hw.rng hw.link : WalkLaw.cost n l p = _)
    rw [hD.st, Int.sub_zero] at kco
    have hDl : D.length = n := by have := hD.len; omega
    have htn : t < n := by omega
    have hDt : D.getD t 0 = dg D (t : Int) := by rw [dg, Int.toNat_natCast]
    have K2 := Lib.hid k2
    have K3 := Lib.hid k3
    have K5 := Lib.hid k5
    have KCO := Lib.hid kco
    have HUQ := Lib.hid huq
    have HDL := Lib.hid hDl
    have HDT := Lib.hid hDt
    generalize dg D (t : Int) = db at *
    clear k2 k3 k5 kco huq hlk hD hbf hg hc hDl hDt
    go_enter Try.func6, Try.ntmps6
    go_wp2_with fail
    refine (two_any _).mono ?_
    rintro e w1 ⟨g, rfl, own1, hb1⟩
    have B1 : Below (w.heap.size + 1) (w.alloc (.cells #[.int .i64 n, .slice A l.length c] 24)) w1 := hb1.mono (by simp)
    have Z1 : w.heap.size + 1 ≤ w1.heap.size := by have := hb1.size; simp at this; omega
    clear hb1
    go_wp2_with fail
    refine (KEY0.out _ _ own1.sl.2).mono ?_
    rintro e w2 ⟨A2, c2, rfl, own2, hb2⟩
    have B2 := B1.trans (hb2.mono Z1)
    have Z2 : w.heap.size + 1 ≤ w2.heap.size := by have := hb2.size; omega
    clear hb2 own1 B1 Z1
    go_wp2_with fail
    refine (KEY1.out _ _ _ _ ((own2.alloc _).alloc _).sl.2 (sl_new' (by decide) (w2.alloc (.cells #[.slice A2 2 c2, .int .i64 5] 39)) #[.int .i64 0, .int .i64 1] _ _ (by simp) rfl)).mono ?_
    rintro e w3 ⟨rfl, hb3⟩
    have B3 := ((B2.alloc Z2 (.cells #[.slice A2 2 c2, .int .i64 5] 39)).alloc (by simp; omega) (.cells #[.int .i64 0, .int .i64 1] 3)).trans (hb3.mono (by simp; omega))
    have Z3 : w.heap.size + 1 ≤ w3.heap.size := by have := hb3.size; simp at this; omega
    clear own2 B2 Z2 hb3
    have z3 : w.heap.size < w3.heap.size := by omega
    have H3 := hw0.trans (B3.mono (Nat.le_succ _))
    obtain ⟨cc3, _⟩ := keepAt B3 (Nat.lt_succ_self _)
    have q0 := cc3 0
    have q1 := cc3 1
    simp at q0 q1
    clear cc3
    go_wp2_with fail
    refine (K2.out _ ((hs.keep H3 (Nat.le_refl _)).more (by omega))).mono ?_
    rintro e w4 ⟨A4, c4, p, rfl, own4, hb4, hwy⟩
    have B4 := (B3.trans (hb4.mono Z3)).alloc (Nat.le_trans Z3 hb4.size) (.cells #[.slice A4 p.length c4, .int .i64 db] 39)
    have z4 : w.heap.size < w4.heap.size := by have := hb4.size; omega
    have sl4 := own4.sl.2
    have hpl := hwy.out.len
    obtain ⟨S4, cq, e4, _, hS4, hcq, _⟩ := own4.some_ (by omega)
    cases e4
    have H4 := hw0.trans (B4.mono (Nat.le_succ _))
    obtain ⟨m, hm⟩ : ∃ m, p.length = m + 1 := ⟨p.length - 1, by omega⟩
    have hm64 : m < 64 := by omega
    have hp0 : p[0]? = some (f : Int) := by rw [← List.head?_eq_getElem?]; exact hwy.out.head
    have hpm : p[m]? = some (t : Int) := by have := hwy.out.last; rw [List.getLast?_eq_getElem?, hm, Nat.add_sub_cancel] at this; exact this
    have hcost := KCO.out p hwy.out
    have hcut := cut_same hwy.out.nd
    have hi64 : ∀ z ∈ p, I64 z := fun z hz => by have := hwy.out.rng z hz; unfold I64; omega
    have hsl5 : ∀ W, Below (w4.heap.size + 1) (w4.alloc (.cells #[.slice (some ⟨S4, 0, none⟩) p.length c4, .int .i64 db] 39)) W → Sl W W.heap.size 1 ci (some ⟨S4, 0, none⟩) p ∧ Sl W W.heap.size 3 ce A l ∧ Below w.heap.size w W ∧ W.cell? ⟨w4.heap.size, 0, none⟩ = some (.slice (some ⟨S4, 0, none⟩) p.length c4) ∧ W.cell? ⟨w4.heap.size, 1, none⟩ = some (.int .i64 db) ∧ W.cell? ⟨w.heap.size, 0, none⟩ = some (.int .i64 n) ∧ W.cell? ⟨w.heap.size, 1, none⟩ = some (.slice A l.length c) ∧ w4.heap.size + 1 ≤ W.heap.size ∧ W.cell? ⟨S4, 0, none⟩ = some (.int .i64 f) ∧ W.cell? ⟨S4, m, none⟩ = some (.int .i64 t) := fun W hW => by
      have hz : w4.heap.size + 1 ≤ W.heap.size := by have := hW.size; simp at this; omega
      have hX := H4.trans (hW.mono (by omega))
      have hY := ((Below.refl w4.heap.size w4).alloc (Nat.le_refl _) (.cells #[.slice (some ⟨S4, 0, none⟩) p.length c4, .int .i64 db] 39)).trans (hW.mono (Nat.le_succ _))
      obtain ⟨c1, _⟩ := keepAt (B4.trans (hW.mono (by omega))) (Nat.lt_succ_self _)
      obtain ⟨c2, _⟩ := keepAt hW (Nat.lt_succ_self _)
      have hsl := (sl4.keep hY (Nat.le_refl _)).more (show w4.heap.size ≤ W.heap.size by omega)
      obtain ⟨b1, o1, e1, _, g1⟩ := at_eq hsl hp0
      injection e1 with e1
      injection e1 with e1 e2
      subst e1 e2
      obtain ⟨b1, o1, e1, _, g2⟩ := at_eq hsl hpm
      injection e1 with e1
      injection e1 with e1 e2
      subst e1 e2
      simp only [Nat.zero_add] at g1 g2
      exact ⟨hsl, (hs.keep hX (Nat.le_refl _)).more (by omega), hX, (c2 0).trans (by simp), (c2 1).trans (by simp), (c1 0).trans (by simp), (c1 1).trans (by simp), hz, g1, g2⟩
    have HSL := Lib.hid hsl5
    have B0 : Below (w4.heap.size + 1) (w4.alloc (.cells #[.slice (some ⟨S4, 0, none⟩) p.length c4, .int .i64 db] 39)) (w4.alloc (.cells #[.slice (some ⟨S4, 0, none⟩) p.length c4, .int .i64 db] 39)) := Below.refl _ _
    obtain ⟨_, s0, _, r0, r1, q0', q1', _⟩ := HSL.out _ B0
    have HM := Lib.hid hm
    have HCOST := Lib.hid hcost
    have HCUT := Lib.hid hcut
    have HI64 := Lib.hid hi64
    clear hsl5 q0 q1 B4 H3 B3 z3 Z3 own4 sl4 hb4 H4 hs hw0 hm hcost hcut hi64 hp0 hpm
    go_wp2_with fail
    refine (K3.out _ s0).mono ?_
    rintro e w5 ⟨S5, D', rfl, own5, hb5, hsh⟩
    have e5 := HUQ.out D' hsh.out
    subst e5
    have B5 := B0.trans (hb5.mono (by simp))
    obtain ⟨sp5, s5, _, p0, p1, n0, n1, z5, _, _⟩ := HSL.out _ B5
    obtain ⟨dc, _⟩ := own_at1 HDL.out own5 htn
    rw [HDT.out] at dc
    have hS5 := (own5.base_ S5 rfl).2
    have dkk : ∀ W, Below w5.heap.size w5 W → W.cell? ⟨S5, t, none⟩ = some (.int .i64 db) := fun W hW => ((keepAt hW hS5).1 t).trans dc
    have DKK := Lib.hid dkk
    have kk := K5.out _ _ c4 p (by omega) s5 sp5
    rw [HCOST.out] at kk
    have KK := Lib.hid kk
    clear kk own5 hb5 B0 r0 r1 q0' q1' dc dkk sp5 s5
    go_wp2_with fail
    refine KK.out.mono ?_
    rintro e w6 ⟨rfl, hb6⟩
    have B6 := B5.trans (hb6.mono z5)
    have D6 : Below w5.heap.size w5 w6 := hb6
    clear p0 p1 n0 n1
    obtain ⟨sp6, s6, _, p0, p1, n0, n1, z6, _, _⟩ := HSL.out _ B6
    have kk := Cut.cut_yes (some ⟨S4, 0, none⟩) c4 p w6 sp6 HI64.out (by omega) (by omega)
    rw [HCUT.out] at kk
    have KK2 := Lib.hid kk
    clear kk sp6 s6 KK hb6 B5
    go_wp2_with fail
    refine KK2.out.mono ?_
    rintro e w7 ⟨A7, c7, rfl, own7, hb7⟩
    have B7 := B6.trans (hb7.mono z6)
    have D7 := D6.trans (hb7.mono D6.size)
    clear p0 p1 n0 n1
    obtain ⟨sp7, s7, H7, p0, p1, n0, n1, z7, g0, g1⟩ := HSL.out _ B7
    have dc := DKK.out _ D7
    have keq := equal_int' A7 (some ⟨S4, 0, none⟩) p.length p.length c7 c4 p p _ _ w7 own7.sl.2 sp7 rfl rfl (by omega) true (by simp)
    have KEQ := Lib.hid keq
    have Z7 := H7.size
    clear keq sp7 s7 own7 hb7 B6 KK2
    go_wp2_with fail
    refine KEQ.out.mono ?_
    rintro e w8 ⟨rfl, n8, rfl⟩
    have hmE : (p.length : Int) = (m : Int) + 1 := by have := HM.out; omega
    have e1 : (0 : Int) < (p.length : Int) := by omega
    have e2 : (p.length : Int) - 1 = (m : Int) := by omega
    have e3 : (m : Int) < (p.length : Int) := by omega
    have e4 : 0 < p.length := by omega
    have e5 : m < p.length := by omega
    clear hmE
    go_wp2
    go_ret
    exact ⟨rfl, below_drewN H7 _⟩
  · have hno : ∀ D, Dijk.look N l [a, b] = 0 → Sh N a l D → dg D b = far := fun D h1 h2 => by
      obtain ⟨_, _, _, b0, b1⟩ := DijkWay.looks_zero h1
      have := (h2.lo b b0 b1).2
      by_cases h3 : dg D b < far
      · exact absurd ⟨D, h1, h2, h3⟩ hex
      · omega
    have k2 := fun W h => way_none N A c l a b hll hno W h
    have ksw := fun W => same_way none none 0 0 0 0 [] [] 0 0 W Sl.nil Sl.nil rfl rfl (by decide) true (by decide)
    have K2 := Lib.hid k2
    have KSW := Lib.hid ksw
    have HNO := Lib.hid hno
    clear k2 hex hno ksw
    by_cases h1 : Dijk.look N l [a] = 0
    · have k3 := fun W h => dist_yes N A c l a hll h1 W h
      obtain ⟨hg, hc, a0, a1⟩ := Dijk.look_zero h1
      have hN1 := hg.lo
      have hN2 := hg.hi
      obtain ⟨n, rfl⟩ := Int.eq_ofNat_of_zero_le (show 0 ≤ N by omega)
      simp only [Int.toNat_natCast] at k3
      have K3 := Lib.hid k3
      by_cases hlk : Dijk.look n l [a, b] = 0
      · obtain ⟨_, _, _, b0, b1⟩ := DijkWay.looks_zero hlk
        obtain ⟨t, rfl⟩ := Int.eq_ofNat_of_zero_le b0
        have htn : t < n := by omega
        have k2 := K2.out
        have HLK := Lib.hid hlk
        have H1 := Lib.hid h1
        clear k2 hlk h1 hg hc k3
        go_enter Try.func6, Try.ntmps6
        go_wp2_with fail
        refine (two_any _).mono ?_
        rintro e w1 ⟨g, rfl, own1, hb1⟩
        have B1 : Below (w.heap.size + 1) (w.alloc (.cells #[.int .i64 n, .slice A l.length c] 24)) w1 := hb1.mono (by simp)
        have Z1 : w.heap.size + 1 ≤ w1.heap.size := by have := hb1.size; simp at this; omega
        clear hb1
        go_wp2_with fail
        refine (KEY0.out _ _ own1.sl.2).mono ?_
        rintro e w2 ⟨A2, c2, rfl, own2, hb2⟩
        have B2 := B1.trans (hb2.mono Z1)
        have Z2 : w.heap.size + 1 ≤ w2.heap.size := by have := hb2.size; omega
        clear hb2 own1 B1 Z1
        go_wp2_with fail
        refine (KEY1.out _ _ _ _ ((own2.alloc _).alloc _).sl.2 (sl_new' (by decide) (w2.alloc (.cells #[.slice A2 2 c2, .int .i64 5] 39)) #[.int .i64 0, .int .i64 1] _ _ (by simp) rfl)).mono ?_
        rintro e w3 ⟨rfl, hb3⟩
        have B3 := ((B2.alloc Z2 (.cells #[.slice A2 2 c2, .int .i64 5] 39)).alloc (by simp; omega) (.cells #[.int .i64 0, .int .i64 1] 3)).trans (hb3.mono (by simp; omega))
        have Z3 : w.heap.size + 1 ≤ w3.heap.size := by have := hb3.size; simp at this; omega
        clear own2 B2 Z2 hb3
        have z3 : w.heap.size < w3.heap.size := by omega
        have H3 := hw0.trans (B3.mono (Nat.le_succ _))
        obtain ⟨cc3, _⟩ := keepAt B3 (Nat.lt_succ_self _)
        have q0 := cc3 0
        have q1 := cc3 1
        simp at q0 q1
        clear cc3
        go_wp2_with fail
        refine (K2.out _ ((hs.keep H3 (Nat.le_refl _)).more H3.size)).mono ?_
        rintro e w4 ⟨x4, hx4, hx1, hx2, rfl, hb4⟩
        have hne : (x4 != 0) = true := by rw [bne_iff_ne]; exact hx4
        have HX1 := Lib.hid hx1
        have HX2 := Lib.hid hx2
        have z4 : w.heap.size < w4.heap.size := by have := hb4.size; omega
        have B4 := (B3.trans (hb4.mono Z3)).alloc (show w.heap.size + 1 ≤ w4.heap.size by omega) (.cells #[.slice none 0 0, .int .i64 0] 39)
        have H4 := hw0.trans (B4.mono (Nat.le_succ _))
        have X4 : Below (w4.heap.size + 1) (w4.alloc (.cells #[.slice none 0 0, .int .i64 0] 39)) (w4.alloc (.cells #[.slice none 0 0, .int .i64 0] 39)) := Below.refl _ _
        clear hb4 B3 H3 z3 Z3 q0 q1 hx4 hx1 hx2
        obtain ⟨cc4, _⟩ := keepAt B4 (Nat.lt_succ_self _)
        have q0 := cc4 0
        have q1 := cc4 1
        simp at q0 q1
        clear cc4
        go_wp2_with fail
        refine (K3.out _ ((hs.keep H4 (Nat.le_refl _)).more H4.size)).mono ?_
        rintro e w5 ⟨S5, D, rfl, own5, hb5, hsh⟩
        have e5 := HX2.out HLK.out
        subst e5
        have hDl : D.length = n := by have := hsh.out.len; omega
        obtain ⟨dc, _⟩ := own_at1 hDl own5 htn
        have hDt : D.getD t 0 = 1099511627776 := by have := HNO.out D HLK.out hsh.out; rw [dg, Int.toNat_natCast] at this; exact this
        rw [hDt] at dc
        have hS5 := (own5.base_ S5 rfl).2
        have H5 := H4.trans (hb5.mono H4.size)
        clear own5 hsh hDl hDt q0 q1 b1
        have X5 := X4.trans (hb5.mono (by simp))
        obtain ⟨cc5, _⟩ := keepAt X5 (Nat.lt_succ_self _)
        have p0 := cc5 0
        have p1 := cc5 1
        simp at p0 p1
        clear cc5 X4 hb5 H4 B4
        go_wp2_with fail
        refine (KSW.out _).mono ?_
        rintro e w6 ⟨rfl, hb6⟩
        have H6 := H5.trans (hb6.mono H5.size)
        clear p0 p1 X5
        have dc6 := ((keepAt hb6 hS5).1 t).trans dc
        clear hb6 dc
        go_wp2
        go_ret
        exact ⟨rfl, H6⟩
      · have hbad := look_bad h1 hlk
        have HLK := Lib.hid hlk
        have HBAD := Lib.hid hbad
        clear hlk hbad h1 hg hc k3
        go_enter Try.func6, Try.ntmps6
        go_wp2_with fail
        refine (two_any _).mono ?_
        rintro e w1 ⟨g, rfl, own1, hb1⟩
        have B1 : Below (w.heap.size + 1) (w.alloc (.cells #[.int .i64 n, .slice A l.length c] 24)) w1 := hb1.mono (by simp)
        have Z1 : w.heap.size + 1 ≤ w1.heap.size := by have := hb1.size; simp at this; omega
        clear hb1
        go_wp2_with fail
        refine (KEY0.out _ _ own1.sl.2).mono ?_
        rintro e w2 ⟨A2, c2, rfl, own2, hb2⟩
        have B2 := B1.trans (hb2.mono Z1)
        have Z2 : w.heap.size + 1 ≤ w2.heap.size := by have := hb2.size; omega
        clear hb2 own1 B1 Z1
        go_wp2_with fail
        refine (KEY1.out _ _ _ _ ((own2.alloc _).alloc _).sl.2 (sl_new' (by decide) (w2.alloc (.cells #[.slice A2 2 c2, .int .i64 5] 39)) #[.int .i64 0, .int .i64 1] _ _ (by simp) rfl)).mono ?_
        rintro e w3 ⟨rfl, hb3⟩
        have B3 := ((B2.alloc Z2 (.cells #[.slice A2 2 c2, .int .i64 5] 39)).alloc (by simp; omega) (.cells #[.int .i64 0, .int .i64 1] 3)).trans (hb3.mono (by simp; omega))
        have Z3 : w.heap.size + 1 ≤ w3.heap.size := by have := hb3.size; simp at this; omega
        clear own2 B2 Z2 hb3
        have z3 : w.heap.size < w3.heap.size := by omega
        have H3 := hw0.trans (B3.mono (Nat.le_succ _))
        obtain ⟨cc3, _⟩ := keepAt B3 (Nat.lt_succ_self _)
        have q0 := cc3 0
        have q1 := cc3 1
        simp at q0 q1
        clear cc3
        go_wp2_with fail
        refine (K2.out _ ((hs.keep H3 (Nat.le_refl _)).more H3.size)).mono ?_
        rintro e w4 ⟨x4, hx4, hx1, hx2, rfl, hb4⟩
        have hne : (x4 != 0) = true := by rw [bne_iff_ne]; exact hx4
        have HX1 := Lib.hid hx1
        have HX2 := Lib.hid hx2
        have z4 : w.heap.size < w4.heap.size := by have := hb4.size; omega
        have B4 := (B3.trans (hb4.mono Z3)).alloc (show w.heap.size + 1 ≤ w4.heap.size by omega) (.cells #[.slice none 0 0, .int .i64 0] 39)
        have H4 := hw0.trans (B4.mono (Nat.le_succ _))
        have X4 : Below (w4.heap.size + 1) (w4.alloc (.cells #[.slice none 0 0, .int .i64 0] 39)) (w4.alloc (.cells #[.slice none 0 0, .int .i64 0] 39)) := Below.refl _ _
        clear hb4 B3 H3 z3 Z3 q0 q1 hx4 hx1 hx2
        obtain ⟨cc4, _⟩ := keepAt B4 (Nat.lt_succ_self _)
        have q0 := cc4 0
        have q1 := cc4 1
        simp at q0 q1
        clear cc4
        go_wp2_with fail
        refine (K3.out _ ((hs.keep H4 (Nat.le_refl _)).more H4.size)).mono ?_
        rintro e w5 ⟨S5, D, rfl, own5, hb5, hsh⟩
        have e5 := (HX1.out HLK.out).trans HBAD.out
        subst e5
        have H5 := H4.trans (hb5.mono H4.size)
        clear own5 hsh q0 q1
        have X5 := X4.trans (hb5.mono (by simp))
        obtain ⟨cc5, _⟩ := keepAt X5 (Nat.lt_succ_self _)
        have p0 := cc5 0
        have p1 := cc5 1
        simp at p0 p1
        clear cc5 X4 hb5 H4 B4
        go_wp2_with fail
        refine (KSW.out _).mono ?_
        rintro e w6 ⟨rfl, hb6⟩
        have H6 := H5.trans (hb6.mono H5.size)
        clear p0 p1 X5
        clear hb6
        go_wp2
        go_ret
        exact ⟨rfl, H6⟩
    · have k3 := fun W h => dist_no N A c l a hll h1 W h
      have hne3 : (Dijk.look N l [a] != 0) = true := by rw [bne_iff_ne]; exact h1
      generalize Dijk.look N l [a] = er at *
      have K3 := Lib.hid k3
      clear k3 h1
      go_enter Try.func6, Try.ntmps6
      go_wp2_with fail
      refine (two_any _).mono ?_
      rintro e w1 ⟨g, rfl, own1, hb1⟩
      have B1 : Below (w.heap.size + 1) (w.alloc (.cells #[.int .i64 N, .slice A l.length c] 24)) w1 := hb1.mono (by simp)
      have Z1 : w.heap.size + 1 ≤ w1.heap.size := by have := hb1.size; simp at this; omega
      clear hb1
      go_wp2_with fail
      refine (KEY0.out _ _ own1.sl.2).mono ?_
      rintro e w2 ⟨A2, c2, rfl, own2, hb2⟩
      have B2 := B1.trans (hb2.mono Z1)
      have Z2 : w.heap.size + 1 ≤ w2.heap.size := by have := hb2.size; omega
      clear hb2 own1 B1 Z1
      go_wp2_with fail
      refine (KEY1.out _ _ _ _ ((own2.alloc _).alloc _).sl.2 (sl_new' (by decide) (w2.alloc (.cells #[.slice A2 2 c2, .int .i64 5] 39)) #[.int .i64 0, .int .i64 1] _ _ (by simp) rfl)).mono ?_
      rintro e w3 ⟨rfl, hb3⟩
      have B3 := ((B2.alloc Z2 (.cells #[.slice A2 2 c2, .int .i64 5] 39)).alloc (by simp; omega) (.cells #[.int .i64 0, .int .i64 1] 3)).trans (hb3.mono (by simp; omega))
      have Z3 : w.heap.size + 1 ≤ w3.heap.size := by have := hb3.size; simp at this; omega
      clear own2 B2 Z2 hb3
      have z3 : w.heap.size < w3.heap.size := by omega
      have H3 := hw0.trans (B3.mono (Nat.le_succ _))
      obtain ⟨cc3, _⟩ := keepAt B3 (Nat.lt_succ_self _)
      have q0 := cc3 0
      have q1 := cc3 1
      simp at q0 q1
      clear cc3
      go_wp2_with fail
      refine (K2.out _ ((hs.keep H3 (Nat.le_refl _)).more H3.size)).mono ?_
      rintro e w4 ⟨x4, hx4, hx1, hx2, rfl, hb4⟩
      have hne : (x4 != 0) = true := by rw [bne_iff_ne]; exact hx4
      have HX1 := Lib.hid hx1
      have HX2 := Lib.hid hx2
      have z4 : w.heap.size < w4.heap.size := by have := hb4.size; omega
      have B4 := (B3.trans (hb4.mono Z3)).alloc (show w.heap.size + 1 ≤ w4.heap.size by omega) (.cells #[.slice none 0 0, .int .i64 0] 39)
      have H4 := hw0.trans (B4.mono (Nat.le_succ _))
      have X4 : Below (w4.heap.size + 1) (w4.alloc (.cells #[.slice none 0 0, .int .i64 0] 39)) (w4.alloc (.cells #[.slice none 0 0, .int .i64 0] 39)) := Below.refl _ _
      clear hb4 B3 H3 z3 Z3 q0 q1 hx4 hx1 hx2
      obtain ⟨cc4, _⟩ := keepAt B4 (Nat.lt_succ_self _)
      have q0 := cc4 0
      have q1 := cc4 1
      simp at q0 q1
      clear cc4
      go_wp2_with fail
      refine (K3.out _ ((hs.keep H4 (Nat.le_refl _)).more H4.size)).mono ?_
      rintro e w5 ⟨rfl, hb5⟩
      have H5 := H4.trans (hb5.mono H4.size)
      clear q0 q1
      have X5 := X4.trans (hb5.mono (by simp))
      obtain ⟨cc5, _⟩ := keepAt X5 (Nat.lt_succ_self _)
      have p0 := cc5 0
      have p1 := cc5 1
      simp at p0 p1
      clear cc5 X4 hb5 H4 B4
      go_wp2_with fail
      refine (KSW.out _).mono ?_
      rintro e w6 ⟨rfl, hb6⟩
      have H6 := H5.trans (hb6.mono H5.size)
      clear p0 p1 X5
      clear hb6
      go_wp2
      go_ret
      exact ⟨rfl, H6⟩

theorem own : ownKnob Try.prog.godebug = none := by kernel_rfl
theorem laidOut : laidOutB Try.prog = true := by kernel_rfl

set_option maxRecDepth 100000 in
theorem lifted (os : Os) (started : os.Started) (H : Type) (enc : TypeId × Value → H) :
    ReturnsInHanded {} Try.checked os 6 .any (Rows.dijkWalksSpec.pre6 enc Try.prog Try.f6 Rows.dijkWalksRow.domain false) (Rows.dijkWalksSpec.post enc Try.prog Try.f6 false true false false) := by
  refine returnsInHanded_of_change (C := Try.checked) own started (by kernel_rfl) Try.func6
    (ChangeSpec.witness6 (enc := enc) (C := Try.checked) false ⟨#[], #[.agg #[.int .i64 0, .slice none 0 0], .int .i64 0, .int .i64 0], []⟩ 8 (by kernel_rfl) (by kernel_rfl) (by kernel_rfl) (by kernel_rfl)) ?_
  intro W base args ds gs before hval0 hW hcnd _
  have hval : ∀ (j : Nat) t v, Try.f6.params[j]? = some t → args[j]? = some v → Value.okWide Try.prog W .any base t v := hval0
  have hW' := hW
  obtain ⟨p, q, hA0, hV, rfl, hfz, hnd⟩ := hW
  have hA : DataW.TrodAll enc Try.prog W 0 (fun _ => true) true Try.f6.params.toList args.toList ds p := hA0
  rw [Try.params6] at hA hval
  obtain ⟨v0, vs0, d0, ds0, p0, q0, hargs, rfl, rfl, h0, r0⟩ := trodAll_cons hA
  obtain ⟨v1, vs1, d1, ds1, p1, q1, rfl, rfl, rfl, h1, r1⟩ := trodAll_cons r0
  obtain ⟨v2, vs2, d2, ds2, p2, q2, rfl, rfl, rfl, h2, r2⟩ := trodAll_cons r1
  obtain ⟨rfl, rfl, rfl⟩ := trodAll_nil r2
  obtain rfl : args = #[v0, v1, v2] := by cases args; simp_all
  obtain ⟨rfl, rfl⟩ := trodVars_none hV
  obtain ⟨N0, A0, c0, l0, dd0, rfl, hN0, hG0, hb0, rfl, hd0⟩ := open_net Try.underlying24 (by kernel_rfl) (by kernel_rfl) Try.underlying3 Try.underlying22 Try.underlying60 (by kernel_rfl) (by kernel_rfl) Try.underlying3 Try.underlying3 Try.underlying3 (hval 0 24 v0 rfl rfl) h0
  obtain ⟨a1, rfl, rfl, rfl, wa1⟩ := open_int Try.underlying3 (hval 1 3 v1 rfl rfl) h1
  obtain ⟨a2, rfl, rfl, rfl, wa2⟩ := open_int Try.underlying3 (hval 2 3 v2 rfl rfl) h2
  refine (walk W N0 A0 c0 l0 hG0 a1 (wf_bd wa1) a2 (wf_bd wa2)).mono fun e W' ⟨he, hB⟩ => ?_
  subst he
  exact ⟨_, rfl, post_of_law laidOut rfl Try.underlying4 rfl (by intro t ht; rw [Try.params6] at ht; simp at ht; rcases ht with rfl | rfl | rfl <;> exact ⟨by kernel_rfl, of_decide_eq_true (by kernel_rfl)⟩) hW' rfl hB⟩

theorem holds : Rows.DijkWalksSaid :=
  OpenClaim.holds_of_wide 6 Try.f6 rfl rfl rfl rfl rfl rfl rfl ⟨rfl, rfl, rfl, rfl, rfl⟩ rfl rfl rfl rfl rfl (by kernel_rfl) Try.func6 (by kernel_rfl)
    (of_decide_eq_true (by kernel_rfl)) (by unfold Func.isWrapper; first | (rw [if_pos (by decide +kernel)]; kernel_rfl) | (rw [if_neg (by decide +kernel)]; exact ⟨rfl, rfl⟩))
    (fun os started H enc _ => lifted os started H enc)
#print axioms holds
end Go.Proofs.Ytdpjbjgecmnmnaa.DijkWalksLaw
