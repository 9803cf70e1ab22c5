/- For every net, marks and places: HeurMore answers true (with more marks no guess is less; with the end itself as a mark each is what it costs), and the arguments read as before. No condition. -/
import Derived.Test.YtdpjbjgecmnmnaaRows
import Derived.Test.YtdpjbjgecmnmnaaOpen
import Derived.Test.YtdpjbjgecmnmnaaHeurAny
import Derived.Test.YtdpjbjgecmnmnaaDijkTwo
import Derived.Test.YtdpjbjgecmnmnaaWithin
import Derived.Deep.RegionHeld3
import Derived.SizedLaws
namespace Go.Proofs.Ytdpjbjgecmnmnaa.HeurMoreLaw
open Go.ChangeShapes Go.WideShapes Go.ChangeAt Go.RowKit Go.Proofs.Ytdpjbjgecmnmnaa NetLaw BellLaw DijkLaw HeurLaw Go.Proofs.Ytdpjbjgecmnmnaa.Net Go.Proofs.Ytdpjbjgecmnmnaa.Dijk Go.Proofs.Ytdpjbjgecmnmnaa.Heur Go.Proofs.Ytdpjbjgecmnmnaa.DijkTwo Go.Proofs.Ytdpjbjgecmnmnaa.Refs Go.Proofs.Ytdpjbjgecmnmnaa.Std Go.Proofs.Ytdpjbjgecmnmnaa.Within
set_option linter.unusedSimpArgs false
set_option linter.unusedVariables false

theorem of_nil (W : World) (g : Nat) (h : Sl W W.heap.size 3 ce (some ⟨g, 0, none⟩) [(0, 1, 5)]) :
    Calls Try.prog 18 #[.agg #[.int .i64 2, .slice (some ⟨g, 0, none⟩) 1 1], .slice none 0 0, .int .i64 1] W fun e w' => ∃ A' c', e = .returned (.tuple #[.slice A' 2 c', .int .i64 0]) ∧ Own w' W.heap.size 3 1 ci (.slice A' 2 c') [0, 0] ∧ Below W.heap.size W w' := by
  obtain ⟨hg, _⟩ := Dijk.look_zero look0
  refine (of_yes 2 (some ⟨g, 0, none⟩) 1 [(0, 1, 5)] none 0 [] 1 W h Sl.nil hg (by decide) (by decide) (by intro v hv; cases hv) (by decide)).mono ?_
  rintro e w' ⟨A', c', D1, D2, h1, h2, h3, h4⟩
  exact ⟨A', c', h1, h2, h4⟩
theorem sl_take {w : World} {B : Nat} {A : Option Addr} {l : List Int} (h : Sl w B 1 ci A l) (k : Nat) : Sl w B 1 ci A (l.take k) := by
  intro hl
  rw [List.length_take] at hl
  obtain ⟨b, off, hA, hb, hc⟩ := h (by omega)
  refine ⟨b, off, hA, hb, fun i hi j hj => ?_⟩
  have hi' : i < l.length := by rw [List.length_take] at hi; omega
  have e : (l.take k)[i] = l[i] := by simp
  rw [e]
  exact hc i hi' j hj

set_option maxRecDepth 100000 in
set_option maxHeartbeats 4000000 in
theorem walk (w : World) (N : Int) (A : Option Addr) (c : Nat) (l : List E) (hA : Arg w 3 ce A c l)
    (Am : Option Addr) (cm : Nat) (ms : List Int) (hAm : Arg w 1 ci Am cm ms) (t : Int) (ht : -9223372036854775808 ≤ t ∧ t ≤ 9223372036854775807) (v : Int) (hv : -9223372036854775808 ≤ v ∧ v ≤ 9223372036854775807) :
    Calls Try.prog 5 #[.agg #[.int .i64 N, .slice A l.length c], .slice Am ms.length cm, .int .i64 t, .int .i64 v] w fun e w' => e = .returned (.bool true) ∧ Below w.heap.size w w' := by
  have hs := hA.sl
  have hll : l.length ≤ 9223372036854775807 := Nat.le_trans hA.cap hA.max
  have hlm : ms.length ≤ 9223372036854775807 := Nat.le_trans hAm.cap hAm.max
  obtain ⟨i0, hi, hz0, hz1, hz2⟩ := info_parts infoIO
  obtain ⟨m, hm⟩ : ∃ m : Nat, m = min ms.length 3 := ⟨_, rfl⟩
  obtain ⟨ps, hps⟩ : ∃ ps, ps = ms.take m := ⟨_, rfl⟩
  have hpl : ps.length = m := by rw [hps, List.length_take]; omega
  have hm3 : m ≤ 3 := by omega
  have hmc : m ≤ cm := by have := hAm.cap; omega
  have hsm : Sl w w.heap.size 1 ci Am ps := by rw [hps]; exact sl_take hAm.sl m
  have hmn : (if (3 : Int) < (ms.length : Int) then 3 else (ms.length : Int)) = (m : Int) := by split <;> omega
  have hcm : cm ≤ 9223372036854775807 := hAm.max
  have hnil : Am = none → ps.length = 0 ∧ cm = 0 := fun h => by have := hAm.nil h; omega
  have hw0 : Below w.heap.size w (w.alloc (.cells #[.int .i64 N, .slice A l.length c] 24)) := (Below.refl _ _).alloc (Nat.le_refl _) _
  have key0 := of_nil
  have key1 := fun W A A' c c' B B' h h' => eq_two [0, 0] rfl W A A' c c' B B' h h'
  have k1 := fun W h h' => of_any N A c l Am cm ps m hpl t W h h' hll (by omega)
  have k2 := fun W A5 c5 h h' => of_any N A c l A5 c5 (ps ++ [t]) (m + 1) (by simp; exact hpl) t W h h' hll (by omega)
  have k5 : ∀ W, Sl W W.heap.size 1 ci Am ps → Calls Try.prog 20 #[.slice Am m cm] W fun e w' => ∃ A' c', e = .returned (.slice A' m c') ∧ Own w' W.heap.size 3 1 ci (.slice A' m c') ps ∧ Below W.heap.size W w' := fun W h => by
    have k := clone_int Am cm ps W.heap.size W h (Nat.le_refl _) hnil (by omega)
    rw [hpl] at k
    refine k.mono ?_
    rintro e w' ⟨A', c', h1, h2, h3⟩
    rw [hpl] at h1 h2
    exact ⟨A', c', h1, h2, h3⟩
  have law := fun (n m2 : Nat) (er er2 : Int) (o1 o2 : List Int) (h : OfFact N l ps t n er o1) (h' : OfFact N l (ps ++ [t]) t m2 er2 o2) (he : er = 0) (v : Int) (D : List Int) => of_more (v := v) (D := D) (by omega) h h' he
  have kd := fun (x : Int) (hg : NetLaw.Good N l) (hc : ∀ e ∈ l, 1 ≤ e.2.2) (h0 : 0 ≤ x ∧ x < N) W h => dist_yes N A c l x hll (look_good hg hc (by intro y hy; simp at hy; omega)) W h
  have KEY0 := Lib.hid key0
  have KEY1 := Lib.hid key1
  have K1 := Lib.hid k1
  have K2 := Lib.hid k2
  have K5 := Lib.hid k5
  have KD := Lib.hid kd
  have LAW := Lib.hid law
  have HPL := Lib.hid hpl
  clear hA hAm key0 key1 k1 k2 k5 kd law hnil hm hps hpl hlm
  go_enter Try.func5, Try.ntmps5
  go_wp2_with fail
  refine (two_any _).mono ?_
  rintro e w1 ⟨g, rfl, own1, hb1⟩
  have B1 : Below (w.heap.size + 1) (w.alloc (.cells #[.int .i64 N, .slice A l.length c] 24)) w1 := hb1.mono (by simp)
  have Z1 : w.heap.size + 1 ≤ w1.heap.size := by have := hb1.size; simp at this; omega
  clear hb1
  go_wp2_with fail
  refine (KEY0.out _ _ own1.sl.2).mono ?_
  rintro e w2 ⟨A2, c2, rfl, own2, hb2⟩
  have B2 := B1.trans (hb2.mono Z1)
  have Z2 : w.heap.size + 1 ≤ w2.heap.size := by have := hb2.size; omega
  clear hb2 own1 B1 Z1
  go_wp2_with fail
  refine (KEY1.out _ _ _ _ _ _ _ (own2.alloc _).sl.2 (sl_new' (by decide) w2 #[.int .i64 0, .int .i64 0] _ _ rfl rfl)).mono ?_
  rintro e w3 ⟨rfl, k3, rfl⟩
  have B3 := below_drewN (B2.alloc Z2 (.cells #[.int .i64 0, .int .i64 0] 3)) k3
  generalize hw3 : ((w2.alloc (.cells #[.int .i64 0, .int .i64 0] 3)).drewN k3) = w3 at *
  have Z3 : w.heap.size + 1 ≤ w3.heap.size := by rw [← hw3]; simp; omega
  clear own2 B2 Z2 hw3
  have H3 := hw0.trans (B3.mono (Nat.le_succ _))
  have z3 : w.heap.size ≤ w3.heap.size := by omega
  have y3 : w.heap.size < w3.heap.size := by omega
  obtain ⟨cc3, _⟩ := keepAt B3 (Nat.lt_succ_self _)
  have q0 := cc3 0
  have q1 := cc3 1
  simp at q0 q1
  clear cc3
  go_wp2_with fail
  refine (K1.out _ ((hs.keep H3 (Nat.le_refl _)).more H3.size) ((hsm.keep H3 (Nat.le_refl _)).more H3.size)).mono ?_
  rintro e w4 ⟨A4, n, c4, er, o1, rfl, own4, hb4, F4⟩
  have B4 := B3.trans (hb4.mono Z3)
  have Z4 : w.heap.size + 1 ≤ w4.heap.size := by have := B4.size; simp at this; omega
  have H4 := hw0.trans (B4.mono (Nat.le_succ _))
  have z4 : w.heap.size ≤ w4.heap.size := by omega
  have y4 : w.heap.size < w4.heap.size := by omega
  clear q0 q1 hb4 B3 Z3 z3 y3
  obtain ⟨cc4, _⟩ := keepAt B4 (Nat.lt_succ_self _)
  have q0 := cc4 0
  have q1 := cc4 1
  simp at q0 q1
  clear cc4
  go_upto_region 6 with fail
  go_cut [13, 14] from 41 to 51 (fun s13 s14 wx => ∃ A5 m5 c5 er5 o5, s13 = .slice A5 m5 c5 ∧ s14 = .int .i64 er5 ∧ Own wx w4.heap.size 3 1 ci (.slice A5 m5 c5) o5 ∧ Below w4.heap.size w4 wx ∧ Hid (OfFact N l (ps ++ [t]) t m5 er5 o5))
  case first =>
    go_region_held3 (fun w' => w'.cell? ⟨w.heap.size, 0, none⟩ = some (.int .i64 N) ∧ w'.cell? ⟨w.heap.size, 1, none⟩ = some (.slice A l.length c))
      (first
        | go_keep
        | (go_split_ands
           refine ⟨?_, ?_⟩
           · (rw [cE]; assumption)
           · (rw [cE]; assumption)))
      (first
        | (go_at_call 20; refine (K5.out _ (by first | exact (hsm.keep H4.drew (Nat.le_refl _)).more (by simp; omega) | exact (hsm.keep (H4.drew.alloc (by simp; omega) _) (Nat.le_refl _)).more (by simp; omega))).mono ?_; rintro e wc ⟨Ac, cx, rfl, ownc, hbc⟩; have HBc : Below w4.heap.size w4 wc := (by first | exact (Below.refl _ _).drew.trans (hbc.mono (Nat.le_refl _)) | exact ((Below.refl _ _).drew.alloc (Nat.le_refl _) _).trans (hbc.mono (by simp))); obtain ⟨cE, _⟩ := keepAt HBc y4)
        | (refine step_push _ rfl (.tmp 44) (.tmp 46) _ rfl w4.heap.size 3 i0 (.int .i64 0) 1 8 ci Try.underlying25 hi hz0 hz1 hz2 rfl (by decide) _ ps m HPL.out rfl (ownc.alloc _) wc.heap.size 1 t rfl (news1' (by simp)) (fun _ _ => one_ci _ _) (by omega) (by omega) (by have := HBc.size; simp; omega) ?_; intro A4 c4 w4' hown4 hgrow4 hat4; have HB4 : Below w4.heap.size w4 w4' := (HBc.alloc HBc.size _).grown hgrow4 (by have := HBc.size; simp; omega) ownc.lo; obtain ⟨cE, _⟩ := keepAt HB4 y4)
        | (refine step_push _ rfl (.tmp 44) (.tmp 46) _ rfl w4.heap.size 3 i0 (.int .i64 0) 1 8 ci Try.underlying25 hi hz0 hz1 hz2 rfl (by decide) _ ps m HPL.out rfl (ownc.mono (by simp)) w4.heap.size 1 t rfl (fun j hj => ((keepAt hbc (b := w4.heap.size) (by simp)).1 _).trans (news1' (w := w4.drew) (by simp) j hj)) (fun _ _ => one_ci _ _) (by omega) (by omega) (by have := HBc.size; omega) ?_; intro A4 c4 w4' hown4 hgrow4 hat4; have HB4 : Below w4.heap.size w4 w4' := HBc.grown hgrow4 HBc.size (ownc.mono (by simp)).lo; obtain ⟨cE, _⟩ := keepAt HB4 y4)
        | (go_at_call 18; refine (K2.out _ _ _ ((hs.keep (H4.trans (HB4.mono z4)) (Nat.le_refl _)).more (by have := HB4.size; omega)) hown4.sl.2).mono ?_; rintro e w5 ⟨A5, m5, c5, er5, o5, rfl, own5, hb5, F5⟩; have HB5 : Below w4.heap.size w4 w5 := HB4.trans (hb5.mono HB4.size); obtain ⟨cE, _⟩ := keepAt HB5 y4))
    all_goals
      go_wp2_with fail
      go_meet
      exact ⟨A5, m5, c5, er5, o5, rfl, rfl, own5.mono HB4.size, HB5, F5⟩
  case rest =>
    obtain ⟨A5, m5, c5, er5, o5, rfl, rfl, own5, hb5, F5⟩ := hcut
    have own4' := own4.keep hb5
    clear own4
    have B5 := B4.trans (hb5.mono Z4)
    have H5 := H4.trans (hb5.mono z4)
    have Z5 : w.heap.size + 1 ≤ wc.heap.size := by have := hb5.size; omega
    have z5 : w.heap.size < wc.heap.size := by omega
    clear q0 q1 hb5
    obtain ⟨cc5, _⟩ := keepAt B5 (Nat.lt_succ_self _)
    have q0 := cc5 0
    have q1 := cc5 1
    simp at q0 q1
    clear cc5
    by_cases he : er = 0
    · have L := LAW.out n m5 er er5 o1 o5 F4.out F5.out he
      obtain ⟨e5, hN, hm5, l1, l2, ⟨hg, hc⟩, t0, t1, _⟩ := L 0 []
      have L2 := fun v D => (L v D).2.2.2.2.2.2.2.2
      have hN1 := hg.lo
      have hN2 := hg.hi
      subst he
      subst e5
      have hm5x := hm5.symm
      clear hm5
      subst hm5x
      subst hN
      obtain ⟨t, rfl⟩ := Int.eq_ofNat_of_zero_le t0
      have htn : t < n := by omega
      have kw := fun W => within_any v n (by omega) (by omega) W
      have hwi := (wi_spec v n (by omega) (by omega)).2
      generalize wi v n = u at *
      have kd := fun W h => KD.out u hg hc ⟨by omega, by omega⟩ W h
      simp only [Int.toNat_natCast] at kd
      have hlaw := L2 u
      have KW := Lib.hid kw
      have KDU := Lib.hid kd
      have HLAW := Lib.hid hlaw
      have HL1 := Lib.hid l1
      have HL2 := Lib.hid l2
      clear L L2 kw kd hlaw l1 l2 hg hc F4 F5
      go_wp2_with fail
      refine (KW.out _).mono ?_
      rintro e w6 ⟨rfl, hw6⟩
      subst hw6
      go_wp2_with fail
      refine (KDU.out _ ((hs.keep H5 (Nat.le_refl _)).more H5.size)).mono ?_
      rintro e w8 ⟨S, D, rfl, own8, hb8, hsh⟩
      obtain ⟨hle, heq⟩ := HLAW.out D (by omega) (by omega) hsh.out
      have hDl : D.length = n := by have := hsh.out.len; omega
      have H8 := H5.trans (hb8.mono H5.size)
      have own48 := own4'.keep (hb8.mono (by have := own4'.lo; omega))
      have own58 := own5.keep (hb8.mono (Nat.le_refl _))
      obtain ⟨dc, _⟩ := own_at1 hDl own8 htn
      rw [getD_dg] at dc
      have sl4 := own48.sl.2
      have sl5 := own58.sl.2
      obtain ⟨ba, oa, rfl, hba, ha⟩ := atD sl4 (show u < o1.length by rw [HL1.out]; exact hwi)
      obtain ⟨bb, ob, rfl, hbb, hb⟩ := atD sl5 (show u < o5.length by rw [HL2.out]; exact hwi)
      have hun : (u : Int) < n := by omega
      clear own8 hb8 hsh own48 own58 own4' own5 sl4 sl5 hDl
      generalize dg D (t : Int) = x at *
      generalize dg o1 (u : Int) = y1 at *
      generalize dg o5 (u : Int) = y2 at *
      subst heq
      go_wp2
      go_quiet (fail)
      go_wp2
      go_ret
      exact ⟨rfl, below_drewN H8 _⟩
    · have hn0 : n = 0 := by
        rcases F4.out with ⟨_, h, _⟩ | ⟨h, _⟩
        · exact h
        · exact absurd h he
      subst hn0
      have hne : (er != 0) = true := by rw [bne_iff_ne]; exact he
      go_wp2
      go_ret
      exact ⟨rfl, H5⟩

theorem own : ownKnob Try.prog.godebug = none := by kernel_rfl
theorem laidOut : laidOutB Try.prog = true := by kernel_rfl

set_option maxRecDepth 100000 in
theorem lifted (os : Os) (started : os.Started) (H : Type) (enc : TypeId × Value → H) :
    ReturnsInHanded {} Try.checked os 5 .any (Rows.heurMoreSpec.pre6 enc Try.prog Try.f5 Rows.heurMoreRow.domain false) (Rows.heurMoreSpec.post enc Try.prog Try.f5 false true false false) := by
  refine returnsInHanded_of_change (C := Try.checked) own started (by kernel_rfl) Try.func5
    (ChangeSpec.witness6 (enc := enc) (C := Try.checked) false ⟨#[], #[.agg #[.int .i64 0, .slice none 0 0], .slice none 0 0, .int .i64 0, .int .i64 0], []⟩ 8 (by kernel_rfl) (by kernel_rfl) (by kernel_rfl) (by kernel_rfl)) ?_
  intro W base args ds gs before hval0 hW hcnd _
  have hval : ∀ (j : Nat) t v, Try.f5.params[j]? = some t → args[j]? = some v → Value.okWide Try.prog W .any base t v := hval0
  have hW' := hW
  obtain ⟨p, q, hA0, hV, rfl, hfz, hnd⟩ := hW
  have hA : DataW.TrodAll enc Try.prog W 0 (fun _ => true) true Try.f5.params.toList args.toList ds p := hA0
  rw [Try.params5] at hA hval
  obtain ⟨v0, vs0, d0, ds0, p0, q0, hargs, rfl, rfl, h0, r0⟩ := trodAll_cons hA
  obtain ⟨v1, vs1, d1, ds1, p1, q1, rfl, rfl, rfl, h1, r1⟩ := trodAll_cons r0
  obtain ⟨v2, vs2, d2, ds2, p2, q2, rfl, rfl, rfl, h2, r2⟩ := trodAll_cons r1
  obtain ⟨v3, vs3, d3, ds3, p3, q3, rfl, rfl, rfl, h3, r3⟩ := trodAll_cons r2
  obtain ⟨rfl, rfl, rfl⟩ := trodAll_nil r3
  obtain rfl : args = #[v0, v1, v2, v3] := by cases args; simp_all
  obtain ⟨rfl, rfl⟩ := trodVars_none hV
  obtain ⟨N0, A0, c0, l0, dd0, rfl, hN0, hG0, hb0, rfl, hd0⟩ := open_net Try.underlying24 (by kernel_rfl) (by kernel_rfl) Try.underlying3 Try.underlying22 Try.underlying60 (by kernel_rfl) (by kernel_rfl) Try.underlying3 Try.underlying3 Try.underlying3 (hval 0 24 v0 rfl rfl) h0
  obtain ⟨A1, c1, l1, rfl, hG1, hd1, hb1⟩ := open_sl1 Try.underlying25 Try.underlying3 (by kernel_rfl) (hval 1 25 v1 rfl rfl) h1
  obtain ⟨a2, rfl, rfl, rfl, wa2⟩ := open_int Try.underlying3 (hval 2 3 v2 rfl rfl) h2
  obtain ⟨a3, rfl, rfl, rfl, wa3⟩ := open_int Try.underlying3 (hval 3 3 v3 rfl rfl) h3
  refine (walk W N0 A0 c0 l0 hG0 A1 c1 l1 hG1 a2 (wf_bd wa2) a3 (wf_bd wa3)).mono fun e W' ⟨he, hB⟩ => ?_
  subst he
  exact ⟨_, rfl, post_of_law laidOut rfl Try.underlying4 rfl (by intro t ht; rw [Try.params5] at ht; simp at ht; rcases ht with rfl | rfl | rfl | rfl <;> exact ⟨by kernel_rfl, of_decide_eq_true (by kernel_rfl)⟩) hW' rfl hB⟩

theorem holds : Rows.HeurMoreSaid :=
  OpenClaim.holds_of_wide 5 Try.f5 rfl rfl rfl rfl rfl rfl rfl ⟨rfl, rfl, rfl, rfl, rfl⟩ rfl rfl rfl rfl rfl (by kernel_rfl) Try.func5 (by kernel_rfl)
    (of_decide_eq_true (by kernel_rfl)) (by unfold Func.isWrapper; first | (rw [if_pos (by decide +kernel)]; kernel_rfl) | (rw [if_neg (by decide +kernel)]; exact ⟨rfl, rfl⟩))
    (fun os started H enc _ => lifted os started H enc)
#print axioms holds
end Go.Proofs.Ytdpjbjgecmnmnaa.HeurMoreLaw
