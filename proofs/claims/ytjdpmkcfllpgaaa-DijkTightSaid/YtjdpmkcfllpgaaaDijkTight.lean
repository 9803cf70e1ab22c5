/- For every net and place: DijkTight answers true (Dijkstra's distances are tight), and the arguments read as before. No condition. -/
import Derived.Test.YtjdpmkcfllpgaaaRows
import Derived.Test.YtjdpmkcfllpgaaaOpen
import Derived.Test.YtjdpmkcfllpgaaaDijkFn
import Derived.Test.YtjdpmkcfllpgaaaDijkTwo
import Derived.Test.YtjdpmkcfllpgaaaBellEnds
namespace Go.Proofs.Ytjdpmkcfllpgaaa.DijkTightLaw
open Go.ChangeShapes Go.WideShapes Go.ChangeAt Go.RowKit Go.Proofs.Ytjdpmkcfllpgaaa NetLaw BellLaw DijkLaw Go.Proofs.Ytjdpmkcfllpgaaa.Net Go.Proofs.Ytjdpmkcfllpgaaa.Bell Go.Proofs.Ytjdpmkcfllpgaaa.DijkFn Go.Proofs.Ytjdpmkcfllpgaaa.DijkTwo Go.Proofs.Ytjdpmkcfllpgaaa.Refs Go.Proofs.Ytjdpmkcfllpgaaa.Std
set_option linter.unusedSimpArgs false
set_option linter.unusedVariables false

theorem getD_dg (D : List Int) (v : Nat) : D.getD v 0 = dg D (v : Int) := by rw [dg, Int.toNat_natCast]
theorem tight_of {n f : Nat} {l : List E} {D : List Int} (hg : NetLaw.Good n l) (hc : ∀ e ∈ l, 1 ≤ e.2.2) (hD : Sh n f l D) : BellSh.Tight n l f D := by
  refine ⟨by have := hD.len; omega, by rw [getD_dg]; exact hD.st, fun e he h => ?_, fun v v1 v2 v3 => ?_, fun v v1 => ?_, fun v v1 => ?_⟩
  · have := hD.still e he h.1
    omega
  · rw [getD_dg] at v3 ⊢
    obtain ⟨e, he, e1, e2, e3⟩ := BellSh.pred hD hg.ends hc ⟨by omega, by omega⟩ v3 (by omega)
    exact ⟨e, he, e1, by omega, e2⟩
  · rw [getD_dg]
    have := (hD.lo v (by omega) (by omega)).1
    omega
  · rw [getD_dg]
    exact (hD.lo v (by omega) (by omega)).2

theorem caught_new {wr : World} {S n gl : Nat} {D : List Int} (h0 : gl < wr.heap.size) (hS : S < wr.heap.size) (r0 : wr.cell? ⟨gl, 0, none⟩ = some (.slice (some ⟨S, 0, none⟩) n n)) (r1 : ∀ i, i < n → wr.cell? ⟨S, i, none⟩ = some (.int .i64 (D.getD i 0))) (k x : Int) :
    Caught ((wr.alloc (.cells #[.int .i64 k] 3)).alloc (.cells #[.int .i64 x] 3)) wr.heap.size gl (wr.heap.size + 1) S n D k x := by
  have z1 : (wr.alloc (.cells #[.int .i64 k] 3)).heap.size = wr.heap.size + 1 := by simp
  have z2 : ((wr.alloc (.cells #[.int .i64 k] 3)).alloc (.cells #[.int .i64 x] 3)).heap.size = wr.heap.size + 1 + 1 := by simp
  have p1 : ∀ g o, g < wr.heap.size → ((wr.alloc (.cells #[.int .i64 k] 3)).alloc (.cells #[.int .i64 x] 3)).cell? ⟨g, o, none⟩ = wr.cell? ⟨g, o, none⟩ := fun g o hg =>
    (World.cell?_alloc_past _ _ _ (by rw [z1]; exact Nat.lt_succ_of_lt hg)).trans (World.cell?_alloc_past _ _ _ hg)
  refine ⟨?_, (p1 _ _ h0).trans r0, ?_, fun i hi => (p1 _ _ hS).trans (r1 i hi), ?_, ?_, ?_, ?_⟩
  · exact (World.cell?_alloc_past _ _ _ (by rw [z1]; exact Nat.lt_succ_self _)).trans (by rw [cell_new]; rfl)
  · rw [← z1, cell_new]; rfl
  · rw [z2]; omega
  · rw [z2]; omega
  · rw [z2]; omega
  · rw [z2]; omega

set_option maxRecDepth 100000 in
set_option maxHeartbeats 4000000 in
theorem walk (w : World) (N : Int) (A : Option Addr) (c : Nat) (l : List E) (hA : Arg w 3 ce A c l) (a : Int) (ha : -9223372036854775808 ≤ a ∧ a ≤ 9223372036854775807) :
    Calls Try.prog 4 #[.agg #[.int .i64 N, .slice A l.length c], .int .i64 a] w fun e w' => e = .returned (.bool true) ∧ Below w.heap.size w w' := by
  have hs := hA.sl
  have hll : l.length ≤ 9223372036854775807 := Nat.le_trans hA.cap hA.max
  clear hA
  have hw0 : Below w.heap.size w (w.alloc (.cells #[.int .i64 N, .slice A l.length c] 27)) := (Below.refl _ _).alloc (Nat.le_refl _) _
  have key0 := fun W g h => dist_two sh1 look1 W g h
  have key1 := fun W A A' c c' B B' h h' => eq_two [far, 0] rfl W A A' c c' B B' h h'
  have KEY0 := Lib.hid key0
  have KEY1 := Lib.hid key1
  clear key0 key1
  by_cases hx : Dijk.look N l [a] = 0
  · have k2 := fun W h => dist_yes N A c l a hll hx W h
    obtain ⟨hg, hc, f0, f1⟩ := Dijk.look_zero hx
    have hN1 := hg.lo
    have hN2 := hg.hi
    have h6 := hg.len
    obtain ⟨n, rfl⟩ := Int.eq_ofNat_of_zero_le (show 0 ≤ N by omega)
    obtain ⟨f, rfl⟩ := Int.eq_ofNat_of_zero_le f0
    simp only [Int.toNat_natCast] at k2
    have ht0 := fun (D : List Int) (hD : Sh n f l D) => tight_of hg hc hD
    have K2 := Lib.hid k2
    have HT0 := Lib.hid ht0
    have HG := Lib.hid hg
    clear k2 hx hg hc ht0
    go_enter Try.func4, Try.ntmps4
    go_wp2_with fail
    refine (two_any _).mono ?_
    rintro e w1 ⟨g, rfl, own1, hb1⟩
    have B1 : Below (w.heap.size + 1) (w.alloc (.cells #[.int .i64 n, .slice A l.length c] 27)) w1 := hb1.mono (by simp)
    have Z1 : w.heap.size + 1 ≤ w1.heap.size := by have := hb1.size; simp at this; omega
    clear hb1
    go_wp2_with fail
    refine (KEY0.out _ _ own1.sl.2).mono ?_
    rintro e w2 ⟨S2, rfl, own2, hb2⟩
    have B2 := B1.trans (hb2.mono Z1)
    have Z2 : w.heap.size + 1 ≤ w2.heap.size := by have := hb2.size; omega
    clear hb2 own1 B1 Z1
    go_wp2_with fail
    refine (KEY1.out _ _ _ _ _ _ _ (own2.alloc _).sl.2 (sl_new' (by decide) w2 #[.int .i64 1099511627776, .int .i64 0] _ _ rfl rfl)).mono ?_
    rintro e w3 ⟨rfl, n3, rfl⟩
    have B3 := below_drewN (B2.alloc Z2 (.cells #[.int .i64 1099511627776, .int .i64 0] 3)) n3
    have Z3 : w.heap.size + 1 ≤ (w2.alloc (.cells #[.int .i64 1099511627776, .int .i64 0] 3)).heap.size := by simp; omega
    generalize (w2.alloc (.cells #[.int .i64 1099511627776, .int .i64 0] 3)) = w3 at B3 Z3 ⊢
    clear own2 B2 Z2
    have z3 : w.heap.size < w3.heap.size := by omega
    have H3 := hw0.trans (B3.mono (Nat.le_succ _))
    obtain ⟨cc3, _⟩ := keepAt B3 (Nat.lt_succ_self _)
    have q0 := cc3 0
    have q1 := cc3 1
    simp at q0 q1
    clear cc3
    go_wp2_with fail
    refine (K2.out _ ((hs.keep H3 (Nat.le_refl _)).more (by simp; omega))).mono ?_
    rintro e w4 ⟨S, D, rfl, own2, hb4, hsh⟩
    have HT : Hid (BellSh.Tight n l f D) := Lib.hid (HT0.out D hsh.out)
    have B2 := B3.trans (hb4.mono Z3)
    have H2 : Below w.heap.size w w4 := hw0.trans (B2.mono (Nat.le_succ _))
    have hS := (own2.base_ S rfl).1
    have hS2 := (own2.base_ S rfl).2
    have z2 : w.heap.size < w4.heap.size := by have := hb4.size; simp at this; omega
    clear q0 q1 B3 H3 z3 Z3 hb4
    obtain ⟨cc2, _⟩ := keepAt B2 (Nat.lt_succ_self _)
    have q0' := cc2 0
    have q1' := cc2 1
    simp at q0' q1'
    have hf : f < n := by omega
    have ht := HT.out
    obtain ⟨dc, _⟩ := own_at1 ht.len own2 hf
    rw [ht.start] at dc
    have hb2' : Below (w4.heap.size + 1) (w4.alloc (.cells #[.slice (some ⟨S, 0, none⟩) n n] 22)) (w4.alloc (.cells #[.slice (some ⟨S, 0, none⟩) n n] 22)) := Below.refl _ _
    have hct0 : ∀ wr, Below (w4.heap.size + 1) (w4.alloc (.cells #[.slice (some ⟨S, 0, none⟩) n n] 22)) wr → wr.cell? ⟨w4.heap.size, 0, none⟩ = some (.slice (some ⟨S, 0, none⟩) n n) ∧ (∀ i, i < n → wr.cell? ⟨S, i, none⟩ = some (.int .i64 (D.getD i 0))) ∧ w4.heap.size + 1 ≤ wr.heap.size ∧ Sl wr w.heap.size 3 ce A l ∧ Below w.heap.size w wr ∧ wr.cell? ⟨w.heap.size, 1, none⟩ = some (.slice A l.length c) := fun wr hB => by
      obtain ⟨c1, _⟩ := keepN hB
      have hH := (H2.alloc (by omega) (.cells #[.slice (some ⟨S, 0, none⟩) n n] 22)).trans (hB.mono (by omega))
      refine ⟨by rw [c1 _ _ (by omega)]; simp, fun i hi => ?_, by have := hB.size; simp at this; omega, hs.keep hH (Nat.le_refl _), hH, ?_⟩
      · rw [c1 _ _ (by omega), World.cell?_alloc_past _ _ _ (by exact hS2)]
        exact (own_at1 ht.len own2 hi).1
      · rw [c1 _ _ (by omega), World.cell?_alloc_past _ _ _ (by exact z2)]
        exact q1'
    have HC := Lib.hid hct0
    clear cc2 own2 B2 H2 ht hct0 hb2' hs
    go_wp2
    go_loopw [52] (fun i wr => ∃ k : Nat, k ≤ l.length ∧ i = .int .i64 k ∧ Below (w4.heap.size + 1) (w4.alloc (.cells #[.slice (some ⟨S, 0, none⟩) n n] 22)) wr) (fun i _ => l.length - (intOf i).toNat)
    case atStart => exact ⟨0, Nat.zero_le _, rfl, Below.refl _ _⟩
    case round =>
      obtain ⟨k, hk, rfl, hB⟩ := hrel
      obtain ⟨r0, r1, r2, r3, r4, r5⟩ := HC.out wr hB
      clear q0' q1' dc
      have hzr : w4.heap.size < wr.heap.size := by omega
      have hSr : S < wr.heap.size := by omega
      by_cases hlt : k < l.length
      · obtain ⟨b, off, f', t', co, rfl, hbB, he, hcf, hct, hcc⟩ := r3.atE hlt
        have hg := HG.out
        have hen := hg.ends _ (List.getElem_mem hlt)
        have hco := hg.cost _ (List.getElem_mem hlt)
        have hst := HT.out.still _ (List.getElem_mem hlt)
        rw [he] at hen hco hst
        obtain ⟨f0, f1, t0, t1⟩ := hen
        simp only at f0 f1 t0 t1 hco hst
        obtain ⟨f', rfl⟩ := Int.eq_ofNat_of_zero_le f0
        obtain ⟨t', rfl⟩ := Int.eq_ofNat_of_zero_le t0
        have x1 := r1 f' (by omega)
        have y1 := r1 t' (by omega)
        have lx := HT.out.lb f' (by omega)
        simp only [dg, Int.toNat_natCast] at hst
        generalize D.getD f' 0 = x at *
        generalize D.getD t' 0 = y at *
        have hbw : b < wr.heap.size := by omega
        have hE := hB.alloc (by omega) (.cells #[.int .i64 f', .int .i64 t', .int .i64 co] 35)
        obtain ⟨co0, co1⟩ := hco
        clear r1 r3 r4 hB he hg f0 t0
        by_cases hx : x < 1099511627776
        · have hy : ¬ x + co < y := fun h => hst ⟨hx, h⟩
          have hd : decide (x + co < y) = false := by simp; omega
          have hd1 : decide (y > x + co) = false := by simp; omega
          clear hst
          go_wp2
          go_quiet (fail)
          go_wp2
          go_roundw
          case rel => exact ⟨k + 1, by omega, by go_num, below_drewN hE _⟩
          case measure => simp [intOf]; omega
        · have hd : decide (x < 1099511627776) = false := by simp; omega
          clear hst hx
          go_wp2
          go_quiet (fail)
          go_wp2
          go_roundw
          case rel => exact ⟨k + 1, by omega, by go_num, below_drewN hE _⟩
          case measure => simp [intOf]; omega
      · obtain rfl : k = l.length := by omega
        clear r1 r3 r4 hlt
        go_wp2
        go_loopw [81] (fun i wr => ∃ k : Nat, k ≤ n ∧ i = .int .i64 k ∧ Below (w4.heap.size + 1) (w4.alloc (.cells #[.slice (some ⟨S, 0, none⟩) n n] 22)) wr) (fun i _ => n - (intOf i).toNat)
        case atStart => exact ⟨0, Nat.zero_le _, rfl, hB⟩
        case round =>
          clear hB r0 r2 r5 hzr hSr
          obtain ⟨k, hk, rfl, hB⟩ := hrel
          obtain ⟨r0, r1, r2, r3, r4, r5⟩ := HC.out wr hB
          have hzr : w4.heap.size < wr.heap.size := by omega
          have hzr0 : w.heap.size < wr.heap.size := by omega
          have hSr : S < wr.heap.size := by omega
          by_cases hlt : k < n
          · have x1 := r1 k hlt
            have ht := HT.out
            have hin := ht.into k hlt
            have hlb := ht.lb
            have hE := (hB.alloc r2 (.cells #[.int .i64 k] 3)).alloc (by simp; omega) (.cells #[.int .i64 (D.getD k 0)] 3)
            have hcau : Caught ((wr.alloc (.cells #[.int .i64 k] 3)).alloc (.cells #[.int .i64 (D.getD k 0)] 3)) wr.heap.size w4.heap.size (wr.heap.size + 1) S n D k (D.getD k 0) :=
              caught_new hzr hSr r0 r1 _ _
            have hsx := ((r3.keep (Below.refl _ _) (Nat.le_refl _)).keep (((Below.refl _ _).alloc (by omega) (.cells #[.int .i64 k] 3)).alloc (by simp; omega) (.cells #[.int .i64 (D.getD k 0)] 3)) (Nat.le_refl _)).more (show w.heap.size ≤ ((wr.alloc (.cells #[.int .i64 k] 3)).alloc (.cells #[.int .i64 (D.getD k 0)] 3)).heap.size by simp; omega)
            have hg := HG.out
            have hxe := ht.hi k hlt
            unfold far at hxe
            have hkf : (k : Int) ≠ f → D.getD k 0 < far → ∀ W', Below ((wr.alloc (.cells #[.int .i64 k] 3)).alloc (.cells #[.int .i64 (D.getD k 0)] 3)).heap.size ((wr.alloc (.cells #[.int .i64 k] 3)).alloc (.cells #[.int .i64 (D.getD k 0)] 3)) W' → Calls Try.prog 18 #[.slice A l.length c, fnvD wr.heap.size w4.heap.size (wr.heap.size + 1)] W' fun e w' => e = .returned (.bool true) ∧ Below W'.heap.size W' w' := fun h1 h2 W' hW =>
              containsD_fn _ _ _ S n D k (D.getD k 0) A c l W' (hcau.keep hW) ((hsx.keep hW (Nat.le_refl _)).more hW.size) hg.len hg.ends hg.cost hlb (hin (by omega) h2)
            have KF := Lib.hid hkf
            generalize D.getD k 0 = x at *
            clear r1 r3 r4 hB ht hin hlb hcau hsx hg hkf
            by_cases hkf : (k : Int) = f
            · have hd : ((k : Int) == f) = true := by simp; omega
              clear KF hkf
              go_wp2
              go_roundw
              case rel => exact ⟨k + 1, by omega, by go_num, hE⟩
              case measure => simp [intOf]; omega
            · have hd : ((k : Int) == f) = false := by simp; omega
              by_cases hx : x < 1099511627776
              · have kf := KF.out hkf hx
                unfold fnvD at kf
                have KC := Lib.hid kf
                have z0 : w4.heap.size + 1 ≤ ((wr.alloc (.cells #[.int .i64 k] 3)).alloc (.cells #[.int .i64 x] 3)).heap.size := by simp; omega
                have hd2 : (x == 1099511627776) = false := by simp; omega
                clear KF kf hkf
                go_wp2_with fail
                refine (KC.out _ (Below.refl _ _)).mono ?_
                rintro e w5 ⟨rfl, hb5⟩
                have B5 := hE.trans (hb5.mono z0)
                clear hb5 hE
                go_wp2
                go_roundw
                case rel => exact ⟨k + 1, by omega, by go_num, B5⟩
                case measure => simp [intOf]; omega
              · have hd2 : (x == 1099511627776) = true := by simp; omega
                clear KF hkf hx
                go_wp2
                go_roundw
                case rel => exact ⟨k + 1, by omega, by go_num, hE⟩
                case measure => simp [intOf]; omega
          · obtain rfl : k = n := by omega
            clear r1 r3
            go_wp2
            go_ret
            exact ⟨rfl, r4⟩
  · have k2 := fun W h => dist_no N A c l a hll hx W h
    have hne : (Dijk.look N l [a] != 0) = true := by rw [bne_iff_ne]; exact hx
    generalize Dijk.look N l [a] = er at *
    have K2 := Lib.hid k2
    clear k2 hx
    go_enter Try.func4, Try.ntmps4
    go_wp2_with fail
    refine (two_any _).mono ?_
    rintro e w1 ⟨g, rfl, own1, hb1⟩
    have B1 : Below (w.heap.size + 1) (w.alloc (.cells #[.int .i64 N, .slice A l.length c] 27)) w1 := hb1.mono (by simp)
    have Z1 : w.heap.size + 1 ≤ w1.heap.size := by have := hb1.size; simp at this; omega
    clear hb1
    go_wp2_with fail
    refine (KEY0.out _ _ own1.sl.2).mono ?_
    rintro e w2 ⟨S2, rfl, own2, hb2⟩
    have B2 := B1.trans (hb2.mono Z1)
    have Z2 : w.heap.size + 1 ≤ w2.heap.size := by have := hb2.size; omega
    clear hb2 own1 B1 Z1
    go_wp2_with fail
    refine (KEY1.out _ _ _ _ _ _ _ (own2.alloc _).sl.2 (sl_new' (by decide) w2 #[.int .i64 1099511627776, .int .i64 0] _ _ rfl rfl)).mono ?_
    rintro e w3 ⟨rfl, n3, rfl⟩
    have B3 := below_drewN (B2.alloc Z2 (.cells #[.int .i64 1099511627776, .int .i64 0] 3)) n3
    have Z3 : w.heap.size + 1 ≤ (w2.alloc (.cells #[.int .i64 1099511627776, .int .i64 0] 3)).heap.size := by simp; omega
    generalize (w2.alloc (.cells #[.int .i64 1099511627776, .int .i64 0] 3)) = w3 at B3 Z3 ⊢
    clear own2 B2 Z2
    have z3 : w.heap.size < w3.heap.size := by omega
    have H3 := hw0.trans (B3.mono (Nat.le_succ _))
    obtain ⟨cc3, _⟩ := keepAt B3 (Nat.lt_succ_self _)
    have q0 := cc3 0
    have q1 := cc3 1
    simp at q0 q1
    clear cc3
    go_wp2_with fail
    refine (K2.out _ ((hs.keep H3 (Nat.le_refl _)).more (by simp; omega))).mono ?_
    rintro e w4 ⟨rfl, hb4⟩
    have H4 := H3.trans (hb4.mono (by simp; omega))
    have z4 := H4.size
    clear hb4 B3 H3 z3 Z3 q0 q1
    go_wp2
    go_ret
    exact ⟨rfl, H4.alloc z4 _⟩

theorem own : ownKnob Try.prog.godebug = none := by kernel_rfl
theorem laidOut : laidOutB Try.prog = true := by kernel_rfl

set_option maxRecDepth 100000 in
theorem lifted (os : Os) (started : os.Started) (H : Type) (enc : TypeId × Value → H) :
    ReturnsInHanded {} Try.checked os 4 .any (Rows.dijkTightSpec.pre6 enc Try.prog Try.f4 Rows.dijkTightRow.domain false) (Rows.dijkTightSpec.post enc Try.prog Try.f4 false true false false) := by
  refine returnsInHanded_of_change (C := Try.checked) own started (by kernel_rfl) Try.func4
    (ChangeSpec.witness6 (enc := enc) (C := Try.checked) false ⟨#[], #[.agg #[.int .i64 0, .slice none 0 0], .int .i64 0], []⟩ 8 (by kernel_rfl) (by kernel_rfl) (by kernel_rfl) (by kernel_rfl)) ?_
  intro W base args ds gs before hval0 hW hcnd _
  have hval : ∀ (j : Nat) t v, Try.f4.params[j]? = some t → args[j]? = some v → Value.okWide Try.prog W .any base t v := hval0
  have hW' := hW
  obtain ⟨p, q, hA0, hV, rfl, hfz, hnd⟩ := hW
  have hA : DataW.TrodAll enc Try.prog W 0 (fun _ => true) true Try.f4.params.toList args.toList ds p := hA0
  rw [Try.params4] at hA hval
  obtain ⟨v0, vs0, d0, ds0, p0, q0, hargs, rfl, rfl, h0, r0⟩ := trodAll_cons hA
  obtain ⟨v1, vs1, d1, ds1, p1, q1, rfl, rfl, rfl, h1, r1⟩ := trodAll_cons r0
  obtain ⟨rfl, rfl, rfl⟩ := trodAll_nil r1
  obtain rfl : args = #[v0, v1] := by cases args; simp_all
  obtain ⟨rfl, rfl⟩ := trodVars_none hV
  obtain ⟨N0, A0, c0, l0, dd0, rfl, hN0, hG0, hb0, rfl, hd0⟩ := open_net Try.underlying27 (by kernel_rfl) (by kernel_rfl) Try.underlying3 Try.underlying25 Try.underlying35 (by kernel_rfl) (by kernel_rfl) Try.underlying3 Try.underlying3 Try.underlying3 (hval 0 27 v0 rfl rfl) h0
  obtain ⟨a1, rfl, rfl, rfl, wa1⟩ := open_int Try.underlying3 (hval 1 3 v1 rfl rfl) h1
  refine (walk W N0 A0 c0 l0 hG0 a1 (wf_bd wa1)).mono fun e W' ⟨he, hB⟩ => ?_
  subst he
  exact ⟨_, rfl, post_of_law laidOut rfl Try.underlying4 rfl (by intro t ht; rw [Try.params4] at ht; simp at ht; rcases ht with rfl | rfl <;> exact ⟨by kernel_rfl, of_decide_eq_true (by kernel_rfl)⟩) hW' rfl hB⟩

theorem holds : Rows.DijkTightSaid :=
  OpenClaim.holds_of_wide 4 Try.f4 rfl rfl rfl rfl rfl rfl rfl ⟨rfl, rfl, rfl, rfl, rfl⟩ rfl rfl rfl rfl rfl (by kernel_rfl) Try.func4 (by kernel_rfl)
    (of_decide_eq_true (by kernel_rfl)) (by unfold Func.isWrapper; first | (rw [if_pos (by decide +kernel)]; kernel_rfl) | (rw [if_neg (by decide +kernel)]; exact ⟨rfl, rfl⟩))
    (fun os started H enc _ => lifted os started H enc)
#print axioms holds
end Go.Proofs.Ytjdpmkcfllpgaaa.DijkTightLaw
