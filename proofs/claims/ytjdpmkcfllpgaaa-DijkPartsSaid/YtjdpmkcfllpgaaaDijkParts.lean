/- For every net, two places and two numbers: DijkParts answers true (every part of a way costs least), and the arguments read as before. No condition. -/
import Derived.Test.YtjdpmkcfllpgaaaRows
import Derived.Test.YtjdpmkcfllpgaaaOpen
import Derived.Test.YtjdpmkcfllpgaaaWayUse
import Derived.Test.YtjdpmkcfllpgaaaWalkCost
import Derived.Test.YtjdpmkcfllpgaaaWithin
import Derived.Deep.RegionHeld3
import Derived.IntWalk
namespace Go.Proofs.Ytjdpmkcfllpgaaa.DijkPartsLaw
open Go.ChangeShapes Go.WideShapes Go.ChangeAt Go.RowKit Go.Proofs.Ytjdpmkcfllpgaaa NetLaw BellLaw DijkLaw WayLaw Go.Proofs.Ytjdpmkcfllpgaaa.Net Go.Proofs.Ytjdpmkcfllpgaaa.Dijk Go.Proofs.Ytjdpmkcfllpgaaa.DijkTwo Go.Proofs.Ytjdpmkcfllpgaaa.WayUse Go.Proofs.Ytjdpmkcfllpgaaa.Within Go.Proofs.Ytjdpmkcfllpgaaa.Refs Go.Proofs.Ytjdpmkcfllpgaaa.Std
set_option linter.unusedSimpArgs false
set_option linter.unusedVariables false

/-- the part from the i-th to the k-th place -/
def prt (p : List Int) (i k : Nat) : List Int := (p.drop i).take (k + 1 - i)
theorem prt_len {p : List Int} {i k : Nat} (hik : i ≤ k) (hk : k < p.length) : (prt p i k).length = k + 1 - i := by
  rw [prt, List.length_take, List.length_drop]; omega
theorem prt_sl {w : World} {B : Nat} {A : Option Addr} {p : List Int} {i k : Nat} (h : Sl w B 1 ci A p) (hik : i ≤ k) (hk : k < p.length) : ∃ b off, A = some ⟨b, off, none⟩ ∧ b < B ∧ Sl w B 1 ci (some ⟨b, off + i, none⟩) (prt p i k) := by
  obtain ⟨b, off, e, hb, hc⟩ := h (by omega)
  refine ⟨b, off, e, hb, fun _ => ⟨b, off + i, rfl, hb, fun j hj j0 hj0 => ?_⟩⟩
  obtain rfl : j0 = 0 := by omega
  rw [prt_len hik hk] at hj
  have := hc (i + j) (by omega) 0 (by omega)
  rw [show off + i + (j * 1 + 0) = off + ((i + j) * 1 + 0) by omega, this]
  simp [prt]
theorem prt_at {p : List Int} {i k : Nat} (hik : i ≤ k) (hk : k < p.length) : (prt p i k).head? = some (p[i]'(by omega)) ∧ (prt p i k).getLast? = some p[k] := by
  constructor
  · rw [prt, List.head?_take, if_neg (by omega), List.head?_drop, List.getElem?_eq_getElem (by omega)]
  · have hl := prt_len hik hk
    rw [List.getLast?_eq_getElem?, hl, prt, List.getElem?_take, if_pos (by omega), List.getElem?_drop, List.getElem?_eq_getElem (by omega)]
    congr 2
    omega
/-- all that the law wants of the part -/
structure Pf (n : Nat) (l : List E) (D : List Int) (u v : Int) (pr : List Int) (x : Int) : Prop where
  cost : WalkLaw.cost n l pr = (x, 0)
  wk : Wk l u v (dg D v - dg D u)
  hx : x = dg D v - dg D u
  u0 : 0 ≤ u ∧ u < n ∧ dg D u < far
  v0 : 0 ≤ v ∧ v < n ∧ dg D v < far
theorem pf_of {n f : Nat} {l : List E} {D : List Int} {tt : Int} {p : List Int} (hD : Sh n f l D) (hg : NetLaw.Good n l) (hw : Wy n l D f tt p) {i k : Nat} (hik : i ≤ k) (hk : k < p.length) : Pf n l D (p[i]'(by omega)) p[k] (prt p i k) (dg D p[k] - dg D (p[i]'(by omega))) := by
  obtain ⟨h1, h2⟩ := prt_at hik hk
  have hmem : ∀ z ∈ prt p i k, z ∈ p := fun z hz => List.mem_of_mem_drop (List.mem_of_mem_take hz)
  have hlk : ∀ q ∈ WalkLaw.prs (prt p i k), Lk l D q.1 q.2 := fun q hq => hw.link q (prs_drop p i q (prs_take (p.drop i) (k + 1 - i) q hq))
  have hn := hg.hi
  have hlen := hw.len
  have hpl := prt_len hik hk
  refine ⟨cost_of hD hg _ _ _ h1 h2 (by omega) (fun z hz => hw.rng z (hmem z hz)) hlk, links_wk _ _ _ h1 h2 hlk, rfl, hw.rng _ (List.getElem_mem _), hw.rng _ (List.getElem_mem _)⟩
theorem look_in {N : Int} {l : List E} {a b : Int} (hg : NetLaw.Good N l) (hc : ∀ e ∈ l, 1 ≤ e.2.2) (ha : 0 ≤ a ∧ a < N) (hb : 0 ≤ b ∧ b < N) : Dijk.look N l [a, b] = 0 := by
  have h0 : Dijk.posE l = 0 := by
    clear hg
    induction l with
    | nil => rfl
    | cons e r ih =>
      have := hc e (by simp)
      rw [Dijk.posE, if_neg (by omega)]
      exact ih fun x hx => hc x (by simp [hx])
  have h1 : Dijk.pos N l = 0 := by rw [Dijk.pos, if_neg (by simpa using chk_zero.2 hg)]; exact h0
  rw [Dijk.look, if_neg (by simpa using h1), Dijk.lookE, if_neg (by omega), Dijk.lookE, if_neg (by omega)]
  rfl
theorem way_last (N : Int) (A : Option Addr) (c : Nat) (l : List E) (hll : l.length ≤ 9223372036854775807) {D : List Int} {f : Int} (hg : NetLaw.Good N l) (hc : ∀ e ∈ l, 1 ≤ e.2.2) (hD : Sh N f l D) (u v : Int) (hu : 0 ≤ u ∧ u < N ∧ dg D u < far) (hv : 0 ≤ v ∧ v < N ∧ dg D v < far) (hw : Wk l u v (dg D v - dg D u)) (W : World) (h : Sl W W.heap.size 3 ce A l) :
    Calls Try.prog 32 #[.agg #[.int .i64 N, .slice A l.length c], .int .i64 u, .int .i64 v] W fun e w' => ∃ A' c' m, e = .returned (.tuple #[.agg #[.slice A' m c', .int .i64 (dg D v - dg D u)], .int .i64 0]) ∧ Below W.heap.size W w' := by
  refine (DijkWay.way_any N A c l u v W h hll).mono ?_
  rintro e w' ⟨_, k2, k3⟩
  have h1 := hg.lo
  obtain ⟨n, rfl⟩ := Int.eq_ofNat_of_zero_le (show 0 ≤ N by omega)
  obtain ⟨D', hD', _, k4⟩ := k2 (look_in hg hc ⟨hu.1, hu.2.1⟩ ⟨hv.1, hv.2.1⟩)
  have hp := part_law hD hD' hg.ends (fun e he => by have := hc e he; omega) ⟨hu.1, hu.2.1⟩ ⟨hv.1, hv.2.1⟩ hu.2.2 hv.2.2 hw
  have := (hD.lo u hu.1 hu.2.1).1
  obtain ⟨A', c', p, he, _, _⟩ := k4 (by omega)
  rw [hp] at he
  exact ⟨A', c', _, he, k3⟩

set_option maxRecDepth 100000 in
set_option maxHeartbeats 4000000 in
theorem walk (w : World) (N : Int) (A : Option Addr) (c : Nat) (l : List E) (hA : Arg w 3 ce A c l) (a : Int) (ha : -9223372036854775808 ≤ a ∧ a ≤ 9223372036854775807) (b : Int) (hb : -9223372036854775808 ≤ b ∧ b ≤ 9223372036854775807) (i : Int) (hi : -9223372036854775808 ≤ i ∧ i ≤ 9223372036854775807) (k : Int) (hk : -9223372036854775808 ≤ k ∧ k ≤ 9223372036854775807) :
    Calls Try.prog 8 #[.agg #[.int .i64 N, .slice A l.length c], .int .i64 a, .int .i64 b, .int .i64 i, .int .i64 k] w fun e w' => e = .returned (.bool true) ∧ Below w.heap.size w w' := by
  have hs := hA.sl
  have hll : l.length ≤ 9223372036854775807 := Nat.le_trans hA.cap hA.max
  clear hA
  have hw0 : Below w.heap.size w (w.alloc (.cells #[.int .i64 N, .slice A l.length c] 27)) := (Below.refl _ _).alloc (Nat.le_refl _) _
  have key0 := fun W g h => way11 W g h
  have key1 := fun W A A' c h h' => same_way A A' 1 1 c 1 [1] [1] 0 0 W h h' rfl rfl (by decide) true (by decide)
  have KEY0 := Lib.hid key0
  have KEY1 := Lib.hid key1
  clear key0 key1
  by_cases hex : ∃ D, Dijk.look N l [a, b] = 0 ∧ Sh N a l D ∧ dg D b < far
  · obtain ⟨D, hlk, hD, hbf⟩ := hex
    obtain ⟨hg, hc, ⟨a0, a1⟩, b0, b1⟩ := DijkWay.looks_zero hlk
    have k2 := fun W h => way_some N A c l a b hll D hlk hD hbf W h
    have hN1 := hg.lo
    have hN2 := hg.hi
    obtain ⟨n, rfl⟩ := Int.eq_ofNat_of_zero_le (show 0 ≤ N by omega)
    obtain ⟨f, rfl⟩ := Int.eq_ofNat_of_zero_le a0
    simp only [Int.toNat_natCast] at k2
    have k6 := fun u v hu hv hw W h => way_last n A c l hll hg hc hD u v hu hv hw W h
    have k5 := fun W A' c' (p : List Int) hpl h1 h2 => Walk.cost_any n A c l A' c' p W h1 h2 hll hpl
    have kpf := fun (p : List Int) hw (i k : Nat) hik hk => pf_of (tt := b) (p := p) (i := i) (k := k) hD hg hw hik hk
    have hdlo := fun v v0 v1 => hD.lo v v0 v1
    have K2 := Lib.hid k2
    have K5 := Lib.hid k5
    have K6 := Lib.hid k6
    have KPF := Lib.hid kpf
    have HDL := Lib.hid hdlo
    generalize dg D b = db at *
    clear k2 k5 k6 kpf hlk hD hbf hg hc hdlo
    go_enter Try.func8, Try.ntmps8
    go_wp2_with fail
    refine (two_any _).mono ?_
    rintro e w1 ⟨g, rfl, own1, hb1⟩
    have B1 : Below (w.heap.size + 1) (w.alloc (.cells #[.int .i64 n, .slice A l.length c] 27)) w1 := hb1.mono (by simp)
    have Z1 : w.heap.size + 1 ≤ w1.heap.size := by have := hb1.size; simp at this; omega
    clear hb1
    go_wp2_with fail
    refine (KEY0.out _ _ own1.sl.2).mono ?_
    rintro e w2 ⟨A2, c2, rfl, own2, hb2⟩
    have B2 := B1.trans (hb2.mono Z1)
    have Z2 : w.heap.size + 1 ≤ w2.heap.size := by have := hb2.size; omega
    clear hb2 own1 B1 Z1
    go_wp2_with fail
    refine (KEY1.out _ _ _ _ ((own2.alloc _).alloc _).sl.2 (sl_new' (by decide) (w2.alloc (.cells #[.slice A2 1 c2, .int .i64 0] 51)) #[.int .i64 1] _ _ (by simp) rfl)).mono ?_
    rintro e w3 ⟨rfl, hb3⟩
    have B3 := ((B2.alloc Z2 (.cells #[.slice A2 1 c2, .int .i64 0] 51)).alloc (by simp; omega) (.cells #[.int .i64 1] 3)).trans (hb3.mono (by simp; omega))
    have Z3 : w.heap.size + 1 ≤ w3.heap.size := by have := hb3.size; simp at this; omega
    clear own2 B2 Z2 hb3
    have z3 : w.heap.size < w3.heap.size := by omega
    have H3 := hw0.trans (B3.mono (Nat.le_succ _))
    obtain ⟨cc3, _⟩ := keepAt B3 (Nat.lt_succ_self _)
    have q0 := cc3 0
    have q1 := cc3 1
    simp at q0 q1
    clear cc3
    go_wp2_with fail
    refine (K2.out _ ((hs.keep H3 (Nat.le_refl _)).more (by omega))).mono ?_
    rintro e w4 ⟨A4, c4, p, rfl, own4, hb4, hwy⟩
    have B4 := (B3.trans (hb4.mono Z3)).alloc (Nat.le_trans Z3 hb4.size) (.cells #[.slice A4 p.length c4, .int .i64 db] 51)
    have z4 : w.heap.size < w4.heap.size := by have := hb4.size; omega
    have sl4 := own4.sl.2
    have hcap := own4.form
    have hpl := hwy.out.len
    obtain ⟨S4, cq, e4, _, hS4, hcq, _⟩ := own4.some_ (by omega)
    cases e4
    have H4 := hw0.trans (B4.mono (Nat.le_succ _))
    have hpn : p.length ≤ 1000 := by omega
    have k3 := fun (W : World) => within_any i p.length hpl.2 hpn W
    have k4 := fun (W : World) => within_any k p.length hpl.2 hpn W
    obtain ⟨_, hi2⟩ := wi_spec i p.length hpl.2 hpn
    obtain ⟨_, hk2⟩ := wi_spec k p.length hpl.2 hpn
    generalize wi i p.length = i1 at *
    generalize wi k p.length = k1 at *
    have K3 := Lib.hid k3
    have K4 := Lib.hid k4
    have hsl5 : ∀ W, Below (w4.heap.size + 1) (w4.alloc (.cells #[.slice (some ⟨S4, 0, none⟩) p.length c4, .int .i64 db] 51)) W → Sl W W.heap.size 1 ci (some ⟨S4, 0, none⟩) p ∧ Sl W W.heap.size 3 ce A l ∧ Below w.heap.size w W ∧ W.cell? ⟨w.heap.size, 0, none⟩ = some (.int .i64 n) ∧ W.cell? ⟨w.heap.size, 1, none⟩ = some (.slice A l.length c) ∧ w4.heap.size + 1 ≤ W.heap.size := fun W hW => by
      have hz : w4.heap.size + 1 ≤ W.heap.size := by have := hW.size; simp at this; omega
      have hX := H4.trans (hW.mono (by omega))
      have hY := ((Below.refl w4.heap.size w4).alloc (Nat.le_refl _) (.cells #[.slice (some ⟨S4, 0, none⟩) p.length c4, .int .i64 db] 51)).trans (hW.mono (Nat.le_succ _))
      obtain ⟨c1, _⟩ := keepAt (B4.trans (hW.mono (by omega))) (Nat.lt_succ_self _)
      exact ⟨(sl4.keep hY (Nat.le_refl _)).more (by omega), (hs.keep hX (Nat.le_refl _)).more (by omega), hX, (c1 0).trans (by simp), (c1 1).trans (by simp), hz⟩
    have HSL := Lib.hid hsl5
    have B0 : Below (w4.heap.size + 1) (w4.alloc (.cells #[.slice (some ⟨S4, 0, none⟩) p.length c4, .int .i64 db] 51)) (w4.alloc (.cells #[.slice (some ⟨S4, 0, none⟩) p.length c4, .int .i64 db] 51)) := Below.refl _ _
    obtain ⟨_, _, _, q0', q1', _⟩ := HSL.out _ B0
    clear k3 k4 hsl5 q0 q1 B4 H3 B3 z3 Z3 own4 sl4 hb4 hcap H4 hs hw0
    go_wp2
    go_quiet ((go_at_call 34; first | (with_reducible exact Calls.quiet_of_same (K3.out _)) | (with_reducible exact Calls.quiet_of_same (K4.out _))))
    have B1 := below_drewN B0 nq
    rcases (show i1 < k1 ∨ i1 = k1 ∨ k1 < i1 by omega) with hlt | heq | hgt
    · obtain ⟨j, rfl⟩ : ∃ j, k1 = i1 + j := ⟨k1 - i1, by omega⟩
      have hf1 : (i1 + j < i1) = False := eq_false (by omega)
      have hf2 : ((i1 : Int) + (j : Int) < (i1 : Int)) = False := eq_false (by omega)
      have hf3 : (((i1 + j : Nat) : Int) < (i1 : Int)) = False := eq_false (by omega)
      have kp := KPF.out p hwy.out i1 (i1 + j) (by omega) hk2
      have hq : i1 + j + 1 - i1 = j + 1 := by omega
      have kc : ∀ W cc, Below (w4.heap.size + 1) (w4.alloc (.cells #[.slice (some ⟨S4, 0, none⟩) p.length c4, .int .i64 db] 51)) W → Calls Try.prog 28 #[.agg #[.int .i64 n, .slice A l.length c], .slice (some ⟨S4, i1, none⟩) (j + 1) cc] W fun e w' => e = .returned (.tuple #[.int .i64 (dg D p[i1 + j] - dg D p[i1]), .int .i64 0]) ∧ Below W.heap.size W w' := fun W cc hW => by
        obtain ⟨s1, s2, _⟩ := HSL.out W hW
        obtain ⟨b', off', e', _, s3⟩ := prt_sl s1 (show i1 ≤ i1 + j by omega) hk2
        cases e'
        rw [Nat.zero_add] at s3
        have hl3 := prt_len (show i1 ≤ i1 + j by omega) hk2
        have k := K5.out W (some ⟨S4, i1, none⟩) cc (prt p i1 (i1 + j)) (by omega) s2 s3
        rw [hl3, hq, kp.cost] at k
        exact k
      have kw := K6.out p[i1] p[i1 + j] kp.u0 kp.v0 kp.wk
      have hcells : ∀ W, Below (w4.heap.size + 1) (w4.alloc (.cells #[.slice (some ⟨S4, 0, none⟩) p.length c4, .int .i64 db] 51)) W → W.cell? ⟨S4, i1, none⟩ = some (.int .i64 p[i1]) ∧ W.cell? ⟨S4, i1 + j, none⟩ = some (.int .i64 p[i1 + j]) := fun W hW => by
        obtain ⟨s1, _⟩ := HSL.out W hW
        obtain ⟨_, _, e1, _, x1⟩ := s1.atI (k := i1) (by omega)
        cases e1
        obtain ⟨_, _, e2, _, x2⟩ := s1.atI (k := i1 + j) (by omega)
        cases e2
        rw [Nat.zero_add] at x1 x2
        exact ⟨x1, x2⟩
      have hux := (HDL.out _ kp.u0.1 kp.u0.2.1)
      have hvx := (HDL.out _ kp.v0.1 kp.v0.2.1)
      generalize p[i1 + j] = pv at *
      generalize p[i1] = pu at *
      generalize dg D pv - dg D pu = cost at *
      have KC := Lib.hid kc
      have KW := Lib.hid kw
      have HCL := Lib.hid hcells
      clear kp kc kw hcells hux hvx
      go_wp2_with fail
      refine (KC.out _ _ B1).mono ?_
      rintro e w5 ⟨rfl, hb5⟩
      have B5 := B1.trans (hb5.mono (by simp))
      clear q0' q1' hb5
      obtain ⟨_, sg5, H5, q0, q1, z5⟩ := HSL.out _ B5
      obtain ⟨e0, e1⟩ := HCL.out _ B5
      have zw5 : w.heap.size < w5.heap.size := by omega
      have zs5 : S4 < w5.heap.size := by omega
      have SG5 := Lib.hid sg5
      have H5' := Lib.hid H5
      clear sg5 H5 B1
      go_wp2
      have hj0 : (0 : Int) ≤ (j : Int) := by omega
      have hj1 : (j : Int) < ((j + 1 : Nat) : Int) := by omega
      have hj2 : (j : Int) < (j : Int) + 1 := by omega
      have hj3 : (j : Int) ≤ 1000 := by omega
      have hw1 : IntKind.i64.wrap (((j + 1 : Nat) : Int) - 1) = (j : Int) := by rw [show ((j + 1 : Nat) : Int) - 1 = (j : Int) by omega]; exact IntWalk.i64_in _ (by omega)
      have hw2 : IntKind.i64.wrap ((j : Int) + 1 - 1) = (j : Int) := by rw [show (j : Int) + 1 - 1 = (j : Int) by omega]; exact IntWalk.i64_in _ (by omega)
      have hw3 : IntKind.i64.wrap (j : Int) = (j : Int) := IntWalk.i64_in _ (by omega)
      go_region_held3 (fun w' => w'.cell? ⟨w.heap.size, 0, none⟩ = some (.int .i64 n) ∧ w'.cell? ⟨w.heap.size, 1, none⟩ = some (.slice A l.length c) ∧ w'.cell? ⟨S4, i1, none⟩ = some (.int .i64 pu) ∧ w'.cell? ⟨S4, i1 + j, none⟩ = some (.int .i64 pv))
        (first
          | go_keep
          | (exact ⟨((keepAt HB6 zw5).1 0).trans q0, ((keepAt HB6 zw5).1 1).trans q1, ((keepAt HB6 zs5).1 _).trans e0, ((keepAt HB6 zs5).1 _).trans e1⟩)
          | (exact ⟨(World.cell?_setCell_far _ _ _ _ (by dsimp only; omega)).trans ((World.cell?_setCell_far _ _ _ _ (by dsimp only; omega)).trans (((keepAt HB6 zw5).1 0).trans q0)), (World.cell?_setCell_far _ _ _ _ (by dsimp only; omega)).trans ((World.cell?_setCell_far _ _ _ _ (by dsimp only; omega)).trans (((keepAt HB6 zw5).1 1).trans q1)), (World.cell?_setCell_far _ _ _ _ (by dsimp only; omega)).trans ((World.cell?_setCell_far _ _ _ _ (by dsimp only; omega)).trans (((keepAt HB6 zs5).1 _).trans e0)), (World.cell?_setCell_far _ _ _ _ (by dsimp only; omega)).trans ((World.cell?_setCell_far _ _ _ _ (by dsimp only; omega)).trans (((keepAt HB6 zs5).1 _).trans e1))⟩))
        (first
          | (go_at_call 32; refine (KW.out _ (by first | exact (SG5.out.keep (Below.refl _ _).drew (Nat.le_refl _)) | exact (SG5.out.keep ((Below.refl _ _).drew.alloc (Nat.le_refl _) _) (Nat.le_refl _)).more (by simp))).mono ?_; rintro e w6 ⟨A6, c6, m6, rfl, hb6⟩; have HB6 : Below w5.heap.size w5 w6 := (by first | exact (Below.refl _ _).drew.trans (hb6.mono (Nat.le_refl _)) | exact ((Below.refl _ _).drew.alloc (Nat.le_refl _) _).trans (hb6.mono (by simp))); obtain ⟨cE, fE⟩ := bcell hb6; have zE := hb6.size; simp at cE fE zE))
      all_goals
        have H6 := H5'.out.trans (HB6.mono (Nat.le_of_lt zw5))
        have H6' := Lib.hid H6
        clear H6
        go_wp2
        go_ret
        first
          | exact ⟨rfl, H6'.out.alloc H6'.out.size _⟩
          | exact ⟨rfl, (H6'.out.setCell (by dsimp only; omega) _).setCell (by dsimp only; omega) _⟩
    · subst heq
      have kp := KPF.out p hwy.out i1 (i1) (by omega) hk2
      have hq : i1 + 1 - i1 = 1 := by omega
      have kc : ∀ W cc, Below (w4.heap.size + 1) (w4.alloc (.cells #[.slice (some ⟨S4, 0, none⟩) p.length c4, .int .i64 db] 51)) W → Calls Try.prog 28 #[.agg #[.int .i64 n, .slice A l.length c], .slice (some ⟨S4, i1, none⟩) (1) cc] W fun e w' => e = .returned (.tuple #[.int .i64 (dg D p[i1] - dg D p[i1]), .int .i64 0]) ∧ Below W.heap.size W w' := fun W cc hW => by
        obtain ⟨s1, s2, _⟩ := HSL.out W hW
        obtain ⟨b', off', e', _, s3⟩ := prt_sl s1 (show i1 ≤ i1 by omega) hk2
        cases e'
        rw [Nat.zero_add] at s3
        have hl3 := prt_len (show i1 ≤ i1 by omega) hk2
        have k := K5.out W (some ⟨S4, i1, none⟩) cc (prt p i1 (i1)) (by omega) s2 s3
        rw [hl3, hq, kp.cost] at k
        exact k
      have kw := K6.out p[i1] p[i1] kp.u0 kp.v0 kp.wk
      have hcells : ∀ W, Below (w4.heap.size + 1) (w4.alloc (.cells #[.slice (some ⟨S4, 0, none⟩) p.length c4, .int .i64 db] 51)) W → W.cell? ⟨S4, i1, none⟩ = some (.int .i64 p[i1]) ∧ W.cell? ⟨S4, i1, none⟩ = some (.int .i64 p[i1]) := fun W hW => by
        obtain ⟨s1, _⟩ := HSL.out W hW
        obtain ⟨_, _, e1, _, x1⟩ := s1.atI (k := i1) (by omega)
        cases e1
        obtain ⟨_, _, e2, _, x2⟩ := s1.atI (k := i1) (by omega)
        cases e2
        rw [Nat.zero_add] at x1 x2
        exact ⟨x1, x2⟩
      have hux := (HDL.out _ kp.u0.1 kp.u0.2.1)
      have hvx := (HDL.out _ kp.v0.1 kp.v0.2.1)
      generalize p[i1] = pu at *
      generalize dg D pu - dg D pu = cost at *
      have KC := Lib.hid kc
      have KW := Lib.hid kw
      have HCL := Lib.hid hcells
      clear kp kc kw hcells hux hvx
      go_wp2_with fail
      refine (KC.out _ _ B1).mono ?_
      rintro e w5 ⟨rfl, hb5⟩
      have B5 := B1.trans (hb5.mono (by simp))
      clear q0' q1' hb5
      obtain ⟨_, sg5, H5, q0, q1, z5⟩ := HSL.out _ B5
      obtain ⟨e0, e1⟩ := HCL.out _ B5
      have zw5 : w.heap.size < w5.heap.size := by omega
      have zs5 : S4 < w5.heap.size := by omega
      have SG5 := Lib.hid sg5
      have H5' := Lib.hid H5
      clear sg5 H5 B1
      go_wp2
      have hw1 : IntKind.i64.wrap (((1 : Nat) : Int) - 1) = 0 := by decide
      have hw2 : IntKind.i64.wrap ((1 : Int) - 1) = 0 := by decide
      have hw3 : IntKind.i64.wrap 0 = 0 := by decide
      go_region_held3 (fun w' => w'.cell? ⟨w.heap.size, 0, none⟩ = some (.int .i64 n) ∧ w'.cell? ⟨w.heap.size, 1, none⟩ = some (.slice A l.length c) ∧ w'.cell? ⟨S4, i1, none⟩ = some (.int .i64 pu))
        (first
          | go_keep
          | (exact ⟨((keepAt HB6 zw5).1 0).trans q0, ((keepAt HB6 zw5).1 1).trans q1, ((keepAt HB6 zs5).1 _).trans e0⟩)
          | (exact ⟨(World.cell?_setCell_far _ _ _ _ (by dsimp only; omega)).trans ((World.cell?_setCell_far _ _ _ _ (by dsimp only; omega)).trans (((keepAt HB6 zw5).1 0).trans q0)), (World.cell?_setCell_far _ _ _ _ (by dsimp only; omega)).trans ((World.cell?_setCell_far _ _ _ _ (by dsimp only; omega)).trans (((keepAt HB6 zw5).1 1).trans q1)), (World.cell?_setCell_far _ _ _ _ (by dsimp only; omega)).trans ((World.cell?_setCell_far _ _ _ _ (by dsimp only; omega)).trans (((keepAt HB6 zs5).1 _).trans e0))⟩))
        (first
          | (go_at_call 32; refine (KW.out _ (by first | exact (SG5.out.keep (Below.refl _ _).drew (Nat.le_refl _)) | exact (SG5.out.keep ((Below.refl _ _).drew.alloc (Nat.le_refl _) _) (Nat.le_refl _)).more (by simp))).mono ?_; rintro e w6 ⟨A6, c6, m6, rfl, hb6⟩; have HB6 : Below w5.heap.size w5 w6 := (by first | exact (Below.refl _ _).drew.trans (hb6.mono (Nat.le_refl _)) | exact ((Below.refl _ _).drew.alloc (Nat.le_refl _) _).trans (hb6.mono (by simp))); obtain ⟨cE, fE⟩ := bcell hb6; have zE := hb6.size; simp at cE fE zE))
      all_goals
        have H6 := H5'.out.trans (HB6.mono (Nat.le_of_lt zw5))
        have H6' := Lib.hid H6
        clear H6
        go_wp2
        go_ret
        first
          | exact ⟨rfl, H6'.out.alloc H6'.out.size _⟩
          | exact ⟨rfl, (H6'.out.setCell (by dsimp only; omega) _).setCell (by dsimp only; omega) _⟩
    · obtain ⟨j, rfl⟩ : ∃ j, i1 = k1 + j := ⟨i1 - k1, by omega⟩
      have hf1 : (k1 + j < k1) = False := eq_false (by omega)
      have hf2 : ((k1 : Int) + (j : Int) < (k1 : Int)) = False := eq_false (by omega)
      have hf3 : (((k1 + j : Nat) : Int) < (k1 : Int)) = False := eq_false (by omega)
      have kp := KPF.out p hwy.out k1 (k1 + j) (by omega) hi2
      have hq : k1 + j + 1 - k1 = j + 1 := by omega
      have kc : ∀ W cc, Below (w4.heap.size + 1) (w4.alloc (.cells #[.slice (some ⟨S4, 0, none⟩) p.length c4, .int .i64 db] 51)) W → Calls Try.prog 28 #[.agg #[.int .i64 n, .slice A l.length c], .slice (some ⟨S4, k1, none⟩) (j + 1) cc] W fun e w' => e = .returned (.tuple #[.int .i64 (dg D p[k1 + j] - dg D p[k1]), .int .i64 0]) ∧ Below W.heap.size W w' := fun W cc hW => by
        obtain ⟨s1, s2, _⟩ := HSL.out W hW
        obtain ⟨b', off', e', _, s3⟩ := prt_sl s1 (show k1 ≤ k1 + j by omega) hi2
        cases e'
        rw [Nat.zero_add] at s3
        have hl3 := prt_len (show k1 ≤ k1 + j by omega) hi2
        have k := K5.out W (some ⟨S4, k1, none⟩) cc (prt p k1 (k1 + j)) (by omega) s2 s3
        rw [hl3, hq, kp.cost] at k
        exact k
      have kw := K6.out p[k1] p[k1 + j] kp.u0 kp.v0 kp.wk
      have hcells : ∀ W, Below (w4.heap.size + 1) (w4.alloc (.cells #[.slice (some ⟨S4, 0, none⟩) p.length c4, .int .i64 db] 51)) W → W.cell? ⟨S4, k1, none⟩ = some (.int .i64 p[k1]) ∧ W.cell? ⟨S4, k1 + j, none⟩ = some (.int .i64 p[k1 + j]) := fun W hW => by
        obtain ⟨s1, _⟩ := HSL.out W hW
        obtain ⟨_, _, e1, _, x1⟩ := s1.atI (k := k1) (by omega)
        cases e1
        obtain ⟨_, _, e2, _, x2⟩ := s1.atI (k := k1 + j) (by omega)
        cases e2
        rw [Nat.zero_add] at x1 x2
        exact ⟨x1, x2⟩
      have hux := (HDL.out _ kp.u0.1 kp.u0.2.1)
      have hvx := (HDL.out _ kp.v0.1 kp.v0.2.1)
      generalize p[k1 + j] = pv at *
      generalize p[k1] = pu at *
      generalize dg D pv - dg D pu = cost at *
      have KC := Lib.hid kc
      have KW := Lib.hid kw
      have HCL := Lib.hid hcells
      clear kp kc kw hcells hux hvx
      go_wp2_with fail
      refine (KC.out _ _ B1).mono ?_
      rintro e w5 ⟨rfl, hb5⟩
      have B5 := B1.trans (hb5.mono (by simp))
      clear q0' q1' hb5
      obtain ⟨_, sg5, H5, q0, q1, z5⟩ := HSL.out _ B5
      obtain ⟨e0, e1⟩ := HCL.out _ B5
      have zw5 : w.heap.size < w5.heap.size := by omega
      have zs5 : S4 < w5.heap.size := by omega
      have SG5 := Lib.hid sg5
      have H5' := Lib.hid H5
      clear sg5 H5 B1
      go_wp2
      have hj0 : (0 : Int) ≤ (j : Int) := by omega
      have hj1 : (j : Int) < ((j + 1 : Nat) : Int) := by omega
      have hj2 : (j : Int) < (j : Int) + 1 := by omega
      have hj3 : (j : Int) ≤ 1000 := by omega
      have hw1 : IntKind.i64.wrap (((j + 1 : Nat) : Int) - 1) = (j : Int) := by rw [show ((j + 1 : Nat) : Int) - 1 = (j : Int) by omega]; exact IntWalk.i64_in _ (by omega)
      have hw2 : IntKind.i64.wrap ((j : Int) + 1 - 1) = (j : Int) := by rw [show (j : Int) + 1 - 1 = (j : Int) by omega]; exact IntWalk.i64_in _ (by omega)
      have hw3 : IntKind.i64.wrap (j : Int) = (j : Int) := IntWalk.i64_in _ (by omega)
      go_region_held3 (fun w' => w'.cell? ⟨w.heap.size, 0, none⟩ = some (.int .i64 n) ∧ w'.cell? ⟨w.heap.size, 1, none⟩ = some (.slice A l.length c) ∧ w'.cell? ⟨S4, k1, none⟩ = some (.int .i64 pu) ∧ w'.cell? ⟨S4, k1 + j, none⟩ = some (.int .i64 pv))
        (first
          | go_keep
          | (exact ⟨((keepAt HB6 zw5).1 0).trans q0, ((keepAt HB6 zw5).1 1).trans q1, ((keepAt HB6 zs5).1 _).trans e0, ((keepAt HB6 zs5).1 _).trans e1⟩)
          | (exact ⟨(World.cell?_setCell_far _ _ _ _ (by dsimp only; omega)).trans ((World.cell?_setCell_far _ _ _ _ (by dsimp only; omega)).trans (((keepAt HB6 zw5).1 0).trans q0)), (World.cell?_setCell_far _ _ _ _ (by dsimp only; omega)).trans ((World.cell?_setCell_far _ _ _ _ (by dsimp only; omega)).trans (((keepAt HB6 zw5).1 1).trans q1)), (World.cell?_setCell_far _ _ _ _ (by dsimp only; omega)).trans ((World.cell?_setCell_far _ _ _ _ (by dsimp only; omega)).trans (((keepAt HB6 zs5).1 _).trans e0)), (World.cell?_setCell_far _ _ _ _ (by dsimp only; omega)).trans ((World.cell?_setCell_far _ _ _ _ (by dsimp only; omega)).trans (((keepAt HB6 zs5).1 _).trans e1))⟩))
        (first
          | (go_at_call 32; refine (KW.out _ (by first | exact (SG5.out.keep (Below.refl _ _).drew (Nat.le_refl _)) | exact (SG5.out.keep ((Below.refl _ _).drew.alloc (Nat.le_refl _) _) (Nat.le_refl _)).more (by simp))).mono ?_; rintro e w6 ⟨A6, c6, m6, rfl, hb6⟩; have HB6 : Below w5.heap.size w5 w6 := (by first | exact (Below.refl _ _).drew.trans (hb6.mono (Nat.le_refl _)) | exact ((Below.refl _ _).drew.alloc (Nat.le_refl _) _).trans (hb6.mono (by simp))); obtain ⟨cE, fE⟩ := bcell hb6; have zE := hb6.size; simp at cE fE zE))
      all_goals
        have H6 := H5'.out.trans (HB6.mono (Nat.le_of_lt zw5))
        have H6' := Lib.hid H6
        clear H6
        go_wp2
        go_ret
        first
          | exact ⟨rfl, H6'.out.alloc H6'.out.size _⟩
          | exact ⟨rfl, (H6'.out.setCell (by dsimp only; omega) _).setCell (by dsimp only; omega) _⟩
  · have hno : ∀ D, Dijk.look N l [a, b] = 0 → Sh N a l D → dg D b = far := fun D h1 h2 => by
      obtain ⟨_, _, _, b0, b1⟩ := DijkWay.looks_zero h1
      have := (h2.lo b b0 b1).2
      by_cases h3 : dg D b < far
      · exact absurd ⟨D, h1, h2, h3⟩ hex
      · omega
    have k2 := fun W h => way_none N A c l a b hll hno W h
    have K2 := Lib.hid k2
    clear k2 hex hno
    go_enter Try.func8, Try.ntmps8
    go_wp2_with fail
    refine (two_any _).mono ?_
    rintro e w1 ⟨g, rfl, own1, hb1⟩
    have B1 : Below (w.heap.size + 1) (w.alloc (.cells #[.int .i64 N, .slice A l.length c] 27)) w1 := hb1.mono (by simp)
    have Z1 : w.heap.size + 1 ≤ w1.heap.size := by have := hb1.size; simp at this; omega
    clear hb1
    go_wp2_with fail
    refine (KEY0.out _ _ own1.sl.2).mono ?_
    rintro e w2 ⟨A2, c2, rfl, own2, hb2⟩
    have B2 := B1.trans (hb2.mono Z1)
    have Z2 : w.heap.size + 1 ≤ w2.heap.size := by have := hb2.size; omega
    clear hb2 own1 B1 Z1
    go_wp2_with fail
    refine (KEY1.out _ _ _ _ ((own2.alloc _).alloc _).sl.2 (sl_new' (by decide) (w2.alloc (.cells #[.slice A2 1 c2, .int .i64 0] 51)) #[.int .i64 1] _ _ (by simp) rfl)).mono ?_
    rintro e w3 ⟨rfl, hb3⟩
    have B3 := ((B2.alloc Z2 (.cells #[.slice A2 1 c2, .int .i64 0] 51)).alloc (by simp; omega) (.cells #[.int .i64 1] 3)).trans (hb3.mono (by simp; omega))
    have Z3 : w.heap.size + 1 ≤ w3.heap.size := by have := hb3.size; simp at this; omega
    clear own2 B2 Z2 hb3
    have z3 : w.heap.size < w3.heap.size := by omega
    have H3 := hw0.trans (B3.mono (Nat.le_succ _))
    obtain ⟨cc3, _⟩ := keepAt B3 (Nat.lt_succ_self _)
    have q0 := cc3 0
    have q1 := cc3 1
    simp at q0 q1
    clear cc3
    go_wp2_with fail
    refine (K2.out _ ((hs.keep H3 (Nat.le_refl _)).more (by omega))).mono ?_
    rintro e w4 ⟨x4, hx4, _, _, rfl, hb4⟩
    have H4 := H3.trans (hb4.mono (by omega))
    have z4 := H4.size
    have hne : (x4 != 0) = true := by rw [bne_iff_ne]; exact hx4
    clear hb4 B3 H3 z3 Z3 q0 q1 hx4
    go_wp2
    go_ret
    exact ⟨rfl, H4.alloc z4 _⟩

theorem own : ownKnob Try.prog.godebug = none := by kernel_rfl
theorem laidOut : laidOutB Try.prog = true := by kernel_rfl

set_option maxRecDepth 100000 in
theorem lifted (os : Os) (started : os.Started) (H : Type) (enc : TypeId × Value → H) :
    ReturnsInHanded {} Try.checked os 8 .any (Rows.dijkPartsSpec.pre6 enc Try.prog Try.f8 Rows.dijkPartsRow.domain false) (Rows.dijkPartsSpec.post enc Try.prog Try.f8 false true false false) := by
  refine returnsInHanded_of_change (C := Try.checked) own started (by kernel_rfl) Try.func8
    (ChangeSpec.witness6 (enc := enc) (C := Try.checked) false ⟨#[], #[.agg #[.int .i64 0, .slice none 0 0], .int .i64 0, .int .i64 0, .int .i64 0, .int .i64 0], []⟩ 8 (by kernel_rfl) (by kernel_rfl) (by kernel_rfl) (by kernel_rfl)) ?_
  intro W base args ds gs before hval0 hW hcnd _
  have hval : ∀ (j : Nat) t v, Try.f8.params[j]? = some t → args[j]? = some v → Value.okWide Try.prog W .any base t v := hval0
  have hW' := hW
  obtain ⟨p, q, hA0, hV, rfl, hfz, hnd⟩ := hW
  have hA : DataW.TrodAll enc Try.prog W 0 (fun _ => true) true Try.f8.params.toList args.toList ds p := hA0
  rw [Try.params8] at hA hval
  obtain ⟨v0, vs0, d0, ds0, p0, q0, hargs, rfl, rfl, h0, r0⟩ := trodAll_cons hA
  obtain ⟨v1, vs1, d1, ds1, p1, q1, rfl, rfl, rfl, h1, r1⟩ := trodAll_cons r0
  obtain ⟨v2, vs2, d2, ds2, p2, q2, rfl, rfl, rfl, h2, r2⟩ := trodAll_cons r1
  obtain ⟨v3, vs3, d3, ds3, p3, q3, rfl, rfl, rfl, h3, r3⟩ := trodAll_cons r2
  obtain ⟨v4, vs4, d4, ds4, p4, q4, rfl, rfl, rfl, h4, r4⟩ := trodAll_cons r3
  obtain ⟨rfl, rfl, rfl⟩ := trodAll_nil r4
  obtain rfl : args = #[v0, v1, v2, v3, v4] := by cases args; simp_all
  obtain ⟨rfl, rfl⟩ := trodVars_none hV
  obtain ⟨N0, A0, c0, l0, dd0, rfl, hN0, hG0, hb0, rfl, hd0⟩ := open_net Try.underlying27 (by kernel_rfl) (by kernel_rfl) Try.underlying3 Try.underlying25 Try.underlying35 (by kernel_rfl) (by kernel_rfl) Try.underlying3 Try.underlying3 Try.underlying3 (hval 0 27 v0 rfl rfl) h0
  obtain ⟨a1, rfl, rfl, rfl, wa1⟩ := open_int Try.underlying3 (hval 1 3 v1 rfl rfl) h1
  obtain ⟨a2, rfl, rfl, rfl, wa2⟩ := open_int Try.underlying3 (hval 2 3 v2 rfl rfl) h2
  obtain ⟨a3, rfl, rfl, rfl, wa3⟩ := open_int Try.underlying3 (hval 3 3 v3 rfl rfl) h3
  obtain ⟨a4, rfl, rfl, rfl, wa4⟩ := open_int Try.underlying3 (hval 4 3 v4 rfl rfl) h4
  refine (walk W N0 A0 c0 l0 hG0 a1 (wf_bd wa1) a2 (wf_bd wa2) a3 (wf_bd wa3) a4 (wf_bd wa4)).mono fun e W' ⟨he, hB⟩ => ?_
  subst he
  exact ⟨_, rfl, post_of_law laidOut rfl Try.underlying4 rfl (by intro t ht; rw [Try.params8] at ht; simp at ht; rcases ht with rfl | rfl | rfl | rfl | rfl <;> exact ⟨by kernel_rfl, of_decide_eq_true (by kernel_rfl)⟩) hW' rfl hB⟩

theorem holds : Rows.DijkPartsSaid :=
  OpenClaim.holds_of_wide 8 Try.f8 rfl rfl rfl rfl rfl rfl rfl ⟨rfl, rfl, rfl, rfl, rfl⟩ rfl rfl rfl rfl rfl (by kernel_rfl) Try.func8 (by kernel_rfl)
    (of_decide_eq_true (by kernel_rfl)) (by unfold Func.isWrapper; first | (rw [if_pos (by decide +kernel)]; kernel_rfl) | (rw [if_neg (by decide +kernel)]; exact ⟨rfl, rfl⟩))
    (fun os started H enc _ => lifted os started H enc)
#print axioms holds
end Go.Proofs.Ytjdpmkcfllpgaaa.DijkPartsLaw
