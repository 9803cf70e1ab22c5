/- For every net, two places and two numbers: YenMore answers true (of more ways the first are the same; fewer than asked for are all there are), and the arguments read as before. -/
import Derived.Test.YtamphgcpfncenaaRows
import Derived.Test.YtamphgcpfncenaaVOpen
import Derived.Test.YtamphgcpfncenaaVYenUse
import Derived.Test.YtamphgcpfncenaaVYenFirst
import Derived.Test.YtamphgcpfncenaaVDijkTwo
import Derived.Test.YtamphgcpfncenaaVStarKeep
import Derived.Test.YtamphgcpfncenaaVWithin
import Derived.BigQuiet
namespace Go.Proofs.Ytamphgcpfncenaa.YenMoreLaw
open Go.ChangeShapes Go.WideShapes Go.ChangeAt Go.RowKit Go.Proofs.Ytamphgcpfncenaa NetLaw BellLaw DijkLaw WalkLaw YenLaw Go.Proofs.Ytamphgcpfncenaa.Net Go.Proofs.Ytamphgcpfncenaa.Std Go.Proofs.Ytamphgcpfncenaa.Refs Go.Proofs.Ytamphgcpfncenaa.Yen Go.Proofs.Ytamphgcpfncenaa.HeapW
set_option linter.unusedSimpArgs false
set_option linter.unusedVariables false
/-- errors alike; of two lists one begins the other -/
theorem kf_same {N a b : Int} {l : List E} {O O' : List Pop} {er er' : Int} {p q : Nat} (h : KF N a b p l O er) (h' : KF N a b q l O' er') (hp : 1 ≤ p) (hpq : p ≤ q) (hq : q ≤ 8) : er = er' ∧ (er = 0 → O.map (·.2.2) = (O'.map (·.2.2)).take p) := by
  rcases h with ⟨h1, h2, h3⟩ | ⟨_, h1, _⟩ | ⟨h0, _, _, n, s, t, rfl, rfl, rfl, hT, hO⟩
  · rcases h' with ⟨k1, k2, _⟩ | ⟨k1, _⟩ | ⟨k1, _⟩
    · exact ⟨by omega, fun e => absurd (by omega) h1⟩
    · exact absurd k1 h1
    · exact absurd k1 h1
  · omega
  · rcases h' with ⟨k1, _⟩ | ⟨_, k1, _⟩ | ⟨_, _, _, n', s', t', en, es, et, hT', hO'⟩
    · exact absurd h0 k1
    · omega
    · obtain rfl : n' = n := by omega
      obtain rfl : s' = s := by omega
      obtain rfl : t' = t := by omega
      rw [Int.toNat_natCast] at hT hT'
      have he := hT.eq hT' hpq
      have hiff : O = [] ↔ O' = [] := by
        rw [← List.map_eq_nil_iff (f := fun x : Pop => x.2.2) (l := O), ← List.map_eq_nil_iff (f := fun x : Pop => x.2.2) (l := O'), he]
        constructor
        · intro h
          cases hh : O'.map (fun x : Pop => x.2.2) with
          | nil => rfl
          | cons x r =>
            rw [hh] at h
            obtain ⟨p', rfl⟩ : ∃ p', p = p' + 1 := ⟨p - 1, by omega⟩
            cases h
        · intro h; rw [h, List.take_nil]
      refine ⟨?_, fun _ => he⟩
      rcases hO with ⟨h5, h6⟩ | ⟨h5, h6⟩ <;> rcases hO' with ⟨k5, k6⟩ | ⟨k5, k6⟩
      · omega
      · exact absurd (hiff.1 h5) k5
      · exact absurd (hiff.2 k5) h5
      · omega

set_option maxRecDepth 100000 in
set_option maxHeartbeats 8000000 in
theorem walk (w : World) (N : Int) (A : Option Addr) (c : Nat) (l : List E) (hA : Arg w 3 ce A c l) (a : Int) (ha : -9223372036854775808 ≤ a ∧ a ≤ 9223372036854775807) (b : Int) (hb : -9223372036854775808 ≤ b ∧ b ≤ 9223372036854775807) (j : Int) (hj : -9223372036854775808 ≤ j ∧ j ≤ 9223372036854775807) (k : Int) (hk : -9223372036854775808 ≤ k ∧ k ≤ 9223372036854775807) :
    Calls Try.prog 6 #[.agg #[.int .i64 N, .slice A l.length c], .int .i64 a, .int .i64 b, .int .i64 j, .int .i64 k] w fun e w' => e = .returned (.bool true) ∧ Below w.heap.size w w' := by
  have hs := hA.sl
  have hll : l.length ≤ 9223372036854775807 := Nat.le_trans hA.cap hA.max
  clear hA ha hb hj hk
  have hw0 : Below w.heap.size w (w.alloc (.cells #[.int .i64 N, .slice A l.length c] 24)) := (Below.refl _ _).alloc (Nat.le_refl _) _
  have hkeep : ∀ W, Below (w.heap.size + 1) (w.alloc (.cells #[.int .i64 N, .slice A l.length c] 24)) W → (W.cell? ⟨w.heap.size, 0, none⟩ = some (.int .i64 N) ∧ W.cell? ⟨w.heap.size, 1, none⟩ = some (.slice A l.length c)) ∧ w.heap.size + 1 ≤ W.heap.size ∧ Sl W W.heap.size 3 ce A l ∧ Below w.heap.size w W := fun W hW => by
    obtain ⟨cc, _⟩ := keepAt hW (Nat.lt_succ_self _)
    have q0 := cc 0
    have q1 := cc 1
    simp at q0 q1
    have H := hw0.trans (hW.mono (Nat.le_succ _))
    have hz := hW.size
    simp at hz
    exact ⟨⟨q0, q1⟩, by omega, (hs.keep H (Nat.le_refl _)).more H.size, H⟩
  have HK := Lib.hid hkeep
  clear hkeep hw0 hs
  go_enter Try.func6, Try.ntmps6
  go_wp2_with fail
  refine (two_any _).mono ?_
  rintro e w1 ⟨g, rfl, own1, hb1⟩
  have B1 : Below (w.heap.size + 1) (w.alloc (.cells #[.int .i64 N, .slice A l.length c] 24)) w1 := hb1.mono (by simp)
  have kk := k_any 2 1 1 2 (some ⟨g, 0, none⟩) 1 [(0, 1, 5)] w1 own1.sl.2 (by decide)
  have KK := Lib.hid kk
  have HB1 := Lib.hid B1
  clear hb1 kk own1 B1
  go_wp2_with fail
  refine KK.out.mono ?_
  rintro e w2 ⟨A2, m2, c2, O2, er2, rfl, hb2, hm2, hown2, hrd2, hkf2⟩
  obtain ⟨rfl, hO2⟩ := kf_eleven hkf2.out (by decide)
  obtain ⟨rfl, x2, rfl⟩ := one_of hO2 hm2.out (fun x hx => (hrd2.out x hx).2)
  obtain ⟨S2, c2', hA2, _, hS2, _, hc2⟩ := hown2.out.some_ (by simp)
  injection hA2 with e1 e2 e3
  subst e1 e3
  clear e2
  have hcell : w2.cell? ⟨S2, 0, none⟩ = some (.slice x2.1 x2.2.1 x2.2.2) := (hc2 0 (by simp) 0 (by omega)).1
  have hrx := (hrd2.out _ (List.mem_singleton.2 rfl)).1
  obtain ⟨A3, n3, c3⟩ := x2
  simp only at hcell
  have hown3 : Own w2 w1.heap.size 3 1 ci (.slice A3 n3 c3) [1] := hrx
  have hn3 : n3 = 1 := hown3.sl.1
  subst hn3
  have B2 := HB1.out.trans (hb2.out.mono (HK.out _ HB1.out).2.1)
  have Z2 := (HK.out _ B2).2.1
  have B3 := B2.alloc Z2 (.cells #[.int .i64 1] 3)
  obtain ⟨⟨q0, q1⟩, Z3, sg, _⟩ := HK.out _ B3
  have keq := equal_int' A3 (some ⟨w2.heap.size, 0, none⟩) 1 1 c3 1 [1] [1] _ _ _ (hown3.alloc (.cells #[.int .i64 1] 3)).sl.2 (sl_new' (by decide) w2 #[.int .i64 1] 3 [(1 : Int)] rfl rfl) rfl rfl (by decide) true (by decide)
  have KEQ := Lib.hid keq
  have HB3 := Lib.hid B3
  clear KK hb2 hm2 hown2 hrd2 hkf2 hO2 hc2 B2 HB1 keq hrx hown3 q0 q1 sg B3
  go_wp2_with fail
  refine KEQ.out.mono ?_
  rintro e w3 ⟨rfl, kz, hkz⟩
  subst hkz
  have B4 := below_drewN HB3.out kz
  generalize (w2.alloc (.cells #[.int .i64 1] 3)).drewN kz = w4 at B4 ⊢
  obtain ⟨⟨q0, q1⟩, Z4, sg4, _⟩ := HK.out _ B4
  have HB4 := Lib.hid B4
  have kw1 := Within.within_any j 8 (by decide) (by decide) w4
  have kw2 := Within.within_any k 8 (by decide) (by decide) w4
  have hj8 := (Within.wi_spec j 8 (by decide) (by decide)).2
  have hk8 := (Within.wi_spec k 8 (by decide) (by decide)).2
  generalize Within.wi j 8 = jw at kw1 hj8
  generalize Within.wi k 8 = kw at kw2 hk8
  have KW1 := Lib.hid kw1
  have KW2 := Lib.hid kw2
  have HSG4 := Lib.hid sg4
  clear KEQ hcell hS2 HB3 B4 kw1 kw2 Z3 Z2 sg4
  go_wp2_with fail
  refine KW1.out.mono ?_
  rintro e w5 ⟨rfl, hw5⟩
  subst hw5
  go_wp2_with fail
  refine KW2.out.mono ?_
  rintro e w6 ⟨rfl, hw6⟩
  subst hw6
  clear KW1 KW2
  obtain ⟨p, hp⟩ : ∃ p : Nat, p = min (1 + jw) (1 + kw) := ⟨_, rfl⟩
  obtain ⟨q, hq⟩ : ∃ q : Nat, q = max (1 + jw) (1 + kw) := ⟨_, rfl⟩
  have hmin : (if kw < jw then (1 + (kw : Int)) else (1 + (jw : Int))) = (p : Int) := by split <;> omega
  have hmax : (if jw < kw then (1 + (kw : Int)) else (1 + (jw : Int))) = (q : Int) := by split <;> omega
  have hp1 : 1 ≤ p := by omega
  have hpq : p ≤ q := by omega
  have hq8 : q ≤ 8 := by omega
  have ky1 := k_any N a b p A c l w6 HSG4.out hll
  have KY1 := Lib.hid ky1
  clear ky1 hp hq
  go_wp2_with fail
  refine KY1.out.mono ?_
  rintro e w7 ⟨Ao, mo, co, O, er, rfl, hb7, HMO, HOWN, HRD, HKF⟩
  have B7 := HB4.out.trans (hb7.out.mono Z4)
  obtain ⟨⟨q0, q1⟩, Z7, sg7, _⟩ := HK.out _ B7
  have HB7 := Lib.hid B7
  have ky2 := k_any N a b q A c l w7 sg7 hll
  have KY2 := Lib.hid ky2
  clear ky2 sg7 hb7 B7 KY1 HB4 HSG4
  go_wp2_with fail
  refine KY2.out.mono ?_
  rintro e w8 ⟨Ao', mo', co', O', er', rfl, hb8, HMO', HOWN', HRD', HKF'⟩
  have B8 := HB7.out.trans (hb8.out.mono Z7)
  have HF := Lib.hid (HK.out _ B8).2.2.2
  have HB8 := Lib.hid B8
  obtain ⟨rfl, hbeg⟩ := kf_same HKF.out HKF'.out hp1 hpq hq8
  clear KY2 B8 HB7 q0 q1
  by_cases her : er = 0
  · subst her
    have hO := hbeg rfl
    have hmo : mo = min mo' p := by
      have h1 := congrArg List.length hO
      rw [List.length_map, List.length_take, List.length_map, HMO.out, HMO'.out] at h1
      omega
    have hcap : mo ≤ co' := by
      obtain ⟨A', c', he', hc, _⟩ := HOWN'.out.form
      injection he' with _ e1 e2
      have := HMO'.out
      omega
    have hrow : YenF.WRow w8 Ao O := YenF.WRow.keep (w := w7) ⟨HOWN.out.sl.2, fun x hx => ⟨_, (HRD.out x hx).1⟩⟩ hb8.out
    have hrow' : YenF.WRow w8 Ao' (O'.take mo) := ⟨sl_take HOWN'.out.sl.2 _, fun x hx => ⟨_, (HRD'.out x (List.mem_of_mem_take hx)).1⟩⟩
    have hmp : ∀ (P : List Pop), (∀ x ∈ P, x.2.1 = wt l x.2.2) → P.map (·.2) = (P.map (·.2.2)).map (fun z => (wt l z, z)) := fun P hP => by
      rw [List.map_map]
      refine List.map_congr_left fun x hx => ?_
      exact Prod.ext (hP x hx) rfl
    have htk : (O'.map (fun x : Pop => x.2.2)).take p = (O'.map (fun x : Pop => x.2.2)).take mo := by
      rcases Nat.le_total mo' p with h2 | h2
      · rw [List.take_of_length_le (by rw [List.length_map, HMO'.out]; exact h2), List.take_of_length_le (by rw [List.length_map, HMO'.out]; omega)]
      · rw [show mo = p by omega]
    have hlists : O.map (·.2) = (O'.take mo).map (·.2) := by
      rw [hmp O (fun x hx => (HRD.out x hx).2), hmp _ (fun x hx => (HRD'.out x (List.mem_of_mem_take hx)).2), hO, htk, ← List.map_take]
    have kse := same_ways Ao Ao' mo co co' O (O'.take mo) w8 hrow hrow' HMO.out (by rw [List.length_take, HMO'.out]; omega) (by omega) hlists
    have KSE := Lib.hid kse
    have hm1 : (if mo' < mo then (mo' : Int) else (mo : Int)) = (mo : Int) := by split <;> omega
    have hm2 : (if p < mo' then (p : Int) else (mo' : Int)) = (mo : Int) := by split <;> omega
    have hcap2 : (mo : Int) ≤ (co' : Int) := by omega
    have hz8 := Lib.hid (HK.out _ HB8.out).2.1
    clear hO htk hrow hrow' hmp hlists kse hbeg hb8 HOWN HOWN' HRD HRD' HKF HKF' hmo hcap HMO HMO' HF
    go_wp2_with fail
    refine KSE.out.mono ?_
    rintro e w9 ⟨rfl, hb9⟩
    have B9 := HB8.out.trans (hb9.mono hz8.out)
    have HF := Lib.hid (HK.out _ B9).2.2.2
    clear B9 hb9 KSE HB8
    go_wp2
    go_ret
    exact ⟨by simp, HF.out⟩
  · have hne : (er != 0) = true := by rw [bne_iff_ne]; exact her
    clear hbeg hb8 HOWN HOWN' HRD HRD' HKF HKF' HMO HMO' her
    go_wp2
    go_ret
    exact ⟨by simp, HF.out⟩

theorem own : ownKnob Try.prog.godebug = none := by kernel_rfl
theorem laidOut : laidOutB Try.prog = true := by kernel_rfl

set_option maxRecDepth 100000 in
theorem lifted (os : Os) (started : os.Started) (H : Type) (enc : TypeId × Value → H) :
    ReturnsInHanded {} Try.checked os 6 .any (Rows.yenMoreSpec.pre6 enc Try.prog Try.f6 Rows.yenMoreRow.domain false) (Rows.yenMoreSpec.post enc Try.prog Try.f6 false true false false) := by
  refine returnsInHanded_of_change (C := Try.checked) own started (by kernel_rfl) Try.func6
    (ChangeSpec.witness6 (enc := enc) (C := Try.checked) false ⟨#[], #[.agg #[.int .i64 0, .slice none 0 0], .int .i64 0, .int .i64 0, .int .i64 0, .int .i64 0], []⟩ 8 (by kernel_rfl) (by kernel_rfl) (by kernel_rfl) (by kernel_rfl)) ?_
  intro W base args ds gs before hval0 hW hcnd _
  have hval : ∀ (j : Nat) t v, Try.f6.params[j]? = some t → args[j]? = some v → Value.okWide Try.prog W .any base t v := hval0
  have hW' := hW
  obtain ⟨p, q, hA0, hV, rfl, hfz, hnd⟩ := hW
  have hA : DataW.TrodAll enc Try.prog W 0 (fun _ => true) true Try.f6.params.toList args.toList ds p := hA0
  rw [Try.params6] at hA hval
  obtain ⟨v0, vs0, d0, ds0, p0, q0, hargs, rfl, rfl, h0, r0⟩ := trodAll_cons hA
  obtain ⟨v1, vs1, d1, ds1, p1, q1, rfl, rfl, rfl, h1, r1⟩ := trodAll_cons r0
  obtain ⟨v2, vs2, d2, ds2, p2, q2, rfl, rfl, rfl, h2, r2⟩ := trodAll_cons r1
  obtain ⟨v3, vs3, d3, ds3, p3, q3, rfl, rfl, rfl, h3, r3⟩ := trodAll_cons r2
  obtain ⟨v4, vs4, d4, ds4, p4, q4, rfl, rfl, rfl, h4, r4⟩ := trodAll_cons r3
  obtain ⟨rfl, rfl, rfl⟩ := trodAll_nil r4
  obtain rfl : args = #[v0, v1, v2, v3, v4] := by cases args; simp_all
  obtain ⟨rfl, rfl⟩ := trodVars_none hV
  obtain ⟨N0, A0, c0, l0, dd0, rfl, hN0, hG0, hb0, rfl, hd0⟩ := open_net Try.underlying24 (by kernel_rfl) (by kernel_rfl) Try.underlying3 Try.underlying22 Try.underlying27 (by kernel_rfl) (by kernel_rfl) Try.underlying3 Try.underlying3 Try.underlying3 (hval 0 24 v0 rfl rfl) h0
  obtain ⟨a1, rfl, rfl, rfl, wa1⟩ := open_int Try.underlying3 (hval 1 3 v1 rfl rfl) h1
  obtain ⟨a2, rfl, rfl, rfl, wa2⟩ := open_int Try.underlying3 (hval 2 3 v2 rfl rfl) h2
  obtain ⟨a3, rfl, rfl, rfl, wa3⟩ := open_int Try.underlying3 (hval 3 3 v3 rfl rfl) h3
  obtain ⟨a4, rfl, rfl, rfl, wa4⟩ := open_int Try.underlying3 (hval 4 3 v4 rfl rfl) h4
  refine (walk W N0 A0 c0 l0 hG0 a1 (wf_bd wa1) a2 (wf_bd wa2) a3 (wf_bd wa3) a4 (wf_bd wa4)).mono fun e W' ⟨he, hB⟩ => ?_
  subst he
  exact ⟨_, rfl, post_of_law laidOut rfl Try.underlying4 rfl (by intro t ht; rw [Try.params6] at ht; simp at ht; rcases ht with rfl | rfl | rfl | rfl | rfl <;> exact ⟨by kernel_rfl, of_decide_eq_true (by kernel_rfl)⟩) hW' rfl hB⟩

theorem holds : Rows.YenMoreSaid :=
  OpenClaim.holds_of_wide 6 Try.f6 rfl rfl rfl rfl rfl rfl rfl ⟨rfl, rfl, rfl, rfl, rfl⟩ rfl rfl rfl rfl rfl (by kernel_rfl) Try.func6 (by kernel_rfl)
    (of_decide_eq_true (by kernel_rfl)) (by unfold Func.isWrapper; first | (rw [if_pos (by decide +kernel)]; kernel_rfl) | (rw [if_neg (by decide +kernel)]; exact ⟨rfl, rfl⟩))
    (fun os started H enc _ => lifted os started H enc)
#print axioms holds
end Go.Proofs.Ytamphgcpfncenaa.YenMoreLaw
