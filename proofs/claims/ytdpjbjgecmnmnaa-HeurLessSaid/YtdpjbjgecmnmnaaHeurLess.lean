/- For every net, marks and place: HeurLess answers true (what is guessed by marks agrees, and is never more than it costs), and the arguments read as before. No condition. -/
import Derived.Test.YtdpjbjgecmnmnaaRows
import Derived.Test.YtdpjbjgecmnmnaaOpen
import Derived.Test.YtdpjbjgecmnmnaaHeurWalks
import Derived.Test.YtdpjbjgecmnmnaaHeurOf
import Derived.Test.YtdpjbjgecmnmnaaHeurNo
import Derived.Test.YtdpjbjgecmnmnaaDijkTwo
import Derived.SizedLaws
namespace Go.Proofs.Ytdpjbjgecmnmnaa.HeurLessLaw
open Go.ChangeShapes Go.WideShapes Go.ChangeAt Go.RowKit Go.Proofs.Ytdpjbjgecmnmnaa NetLaw BellLaw DijkLaw HeurLaw Go.Proofs.Ytdpjbjgecmnmnaa.Net Go.Proofs.Ytdpjbjgecmnmnaa.Dijk Go.Proofs.Ytdpjbjgecmnmnaa.Heur Go.Proofs.Ytdpjbjgecmnmnaa.DijkTwo Go.Proofs.Ytdpjbjgecmnmnaa.Refs Go.Proofs.Ytdpjbjgecmnmnaa.Std
set_option linter.unusedSimpArgs false
set_option linter.unusedVariables false

theorem sh0t : Sh 2 0 (DijkTurnsPlain.turned [(0, 1, 5)]) [0, far] := by
  refine ⟨rfl, fun v v0 v1 => ?_, rfl, fun v v0 v1 h => ?_, fun e he h => ?_⟩
  · rcases (show v = 0 ∨ v = 1 by omega) with rfl | rfl <;> decide
  · rcases (show v = 0 ∨ v = 1 by omega) with rfl | rfl
    · exact Wk.here
    · exact absurd h (by decide)
  · simp [DijkTurnsPlain.turned] at he; subst he; exact absurd h (by decide)
theorem bls50 {D1 D2 : List (List Int)} (h : Lm 2 [(0, 1, 5)] [0] D1 D2) : bls 2 D1 D2 1 1 2 = [5, 0] := by
  obtain ⟨a, b⟩ := h 0 (by decide)
  have ea := sh0.unique a two_ends two_cost
  have eb := sh0t.unique b (by decide) (by decide)
  unfold bls
  simp only [List.range_succ, List.range_zero, List.nil_append, List.map_append, List.map_cons, List.map_nil, bdl]
  rw [← ea, ← eb]
  decide
theorem of_two0 (W : World) (g : Nat) (Am : Option Addr) (cm : Nat) (h : Sl W W.heap.size 3 ce (some ⟨g, 0, none⟩) [(0, 1, 5)]) (hm : Sl W W.heap.size 1 ci Am [0]) :
    Calls Try.prog 18 #[.agg #[.int .i64 2, .slice (some ⟨g, 0, none⟩) 1 1], .slice Am 1 cm, .int .i64 1] W fun e w' => ∃ A' c', e = .returned (.tuple #[.slice A' 2 c', .int .i64 0]) ∧ Own w' W.heap.size 3 1 ci (.slice A' 2 c') [5, 0] ∧ Below W.heap.size W w' := by
  obtain ⟨hg, _⟩ := Dijk.look_zero look0
  refine (of_yes 2 (some ⟨g, 0, none⟩) 1 [(0, 1, 5)] Am cm [0] 1 W h hm hg (by decide) (by decide) (by decide) (by decide)).mono ?_
  rintro e w' ⟨A', c', D1, D2, h1, h2, h3, h4⟩
  have e5 := bls50 h3

  rw [show (([0] : List Int).length) = 1 from rfl] at h2
  have e5' : bls 2 D1 D2 ((1 : Nat) : Int) 1 2 = [5, 0] := e5
  rw [e5'] at h2
  exact ⟨A', c', h1, h2, h4⟩

set_option maxRecDepth 100000 in
set_option maxHeartbeats 4000000 in
theorem walk (w : World) (N : Int) (A : Option Addr) (c : Nat) (l : List E) (hA : Arg w 3 ce A c l)
    (Am : Option Addr) (cm : Nat) (ms : List Int) (hAm : Arg w 1 ci Am cm ms) (t : Int) (ht : -9223372036854775808 ≤ t ∧ t ≤ 9223372036854775807) :
    Calls Try.prog 4 #[.agg #[.int .i64 N, .slice A l.length c], .slice Am ms.length cm, .int .i64 t] w fun e w' => e = .returned (.bool true) ∧ Below w.heap.size w w' := by
  have hs := hA.sl
  have hll : l.length ≤ 9223372036854775807 := Nat.le_trans hA.cap hA.max
  have hsm := hAm.sl
  have hlm : ms.length ≤ 9223372036854775807 := Nat.le_trans hAm.cap hAm.max
  clear hA hAm
  have hw0 : Below w.heap.size w (w.alloc (.cells #[.int .i64 N, .slice A l.length c] 24)) := (Below.refl _ _).alloc (Nat.le_refl _) _
  have key0 := of_two0
  have KEY0 := Lib.hid key0
  have key1 := fun W A A' c c' B B' h h' => eq_two [5, 0] rfl W A A' c c' B B' h h'
  have KEY1 := Lib.hid key1
  clear key0 key1
  by_cases hok : OkM N l ms ∧ 0 ≤ t ∧ t < N
  · obtain ⟨hm, f0, f1⟩ := hok
    obtain ⟨⟨hg, hc⟩, h4, hr⟩ := okM_iff.1 hm
    have hN := hg.lo
    have hN2 := hg.hi
    obtain ⟨n, rfl⟩ := Int.eq_ofNat_of_zero_le (show 0 ≤ N by omega)
    obtain ⟨t, rfl⟩ := Int.eq_ofNat_of_zero_le f0
    have htn : t < n := by omega
    have ko := fun W h h' => of_yes n A c l Am cm ms t W h h' hg hc h4 hr htn
    have hlk : Dijk.look n l [(t : Int)] = 0 := look_good hg hc (by intro v hv; simp at hv; omega)
    have kc : ∀ (W : World) (A' : Option Addr) (c' : Nat) (H : List Int), H.length = n → Cons n t l H → Sl W W.heap.size 3 ce A l → Sl W W.heap.size 1 ci A' H → Calls Try.prog 15 #[.agg #[.int .i64 n, .slice A l.length c], .int .i64 t, .slice A' n c'] W fun e w' => e = .returned (.int .i64 0) ∧ Below W.heap.size W w' := by
      intro W A' c' H hH hCo h h'
      have k := check_h n t A c l A' c' H W h h' hll (by omega)
      rw [hH, hck_zero.2 ⟨hlk, hCo⟩] at k
      exact k
    have kd : ∀ (v : Int), 0 ≤ v → v < n → ∀ (W : World), Sl W W.heap.size 3 ce A l → _ := fun v v0 v1 W h => dist_yes n A c l v hll (look_good hg hc (by intro x hx; simp at hx; omega)) W h
    simp only [Int.toNat_natCast] at kd
    have kcons := fun D1 D2 (hL : Lm n l ms D1 D2) => bls_cons hL hr hg hc ⟨f0, f1⟩
    have KO := Lib.hid ko
    have KC := Lib.hid kc
    have KD := Lib.hid kd
    have KS := Lib.hid kcons
    clear ko kc kd kcons hlk hm hg hc h4 hr
    go_enter Try.func4, Try.ntmps4
    go_wp2_with fail
    refine (two_any _).mono ?_
    rintro e w1 ⟨g, rfl, own1, hb1⟩
    have B1 : Below (w.heap.size + 1) (w.alloc (.cells #[.int .i64 n, .slice A l.length c] 24)) w1 := hb1.mono (by simp)
    have Z1 : w.heap.size + 1 ≤ w1.heap.size := by have := hb1.size; simp at this; omega
    clear hb1
    go_wp2_with fail
    refine (KEY0.out _ _ _ _ (own1.alloc _).sl.2 (sl_new' (by decide) w1 #[.int .i64 0] _ _ rfl rfl)).mono ?_
    rintro e w2 ⟨A2, c2, rfl, own2, hb2⟩
    have B2 := (B1.alloc Z1 (.cells #[.int .i64 0] 3)).trans (hb2.mono (by simp; omega))
    have Z2 : w.heap.size + 1 ≤ w2.heap.size := by have := hb2.size; simp at this; omega
    clear hb2 own1 B1 Z1
    go_wp2_with fail
    refine (KEY1.out _ _ _ _ _ _ _ (own2.alloc _).sl.2 (sl_new' (by decide) w2 #[.int .i64 5, .int .i64 0] _ _ rfl rfl)).mono ?_
    rintro e w3 ⟨rfl, k3, rfl⟩
    have B3 := below_drewN (B2.alloc Z2 (.cells #[.int .i64 5, .int .i64 0] 3)) k3
    generalize hw3 : ((w2.alloc (.cells #[.int .i64 5, .int .i64 0] 3)).drewN k3) = w3 at *
    have Z3 : w.heap.size + 1 ≤ w3.heap.size := by rw [← hw3]; simp; omega
    clear own2 B2 Z2 hw3
    have H3 := hw0.trans (B3.mono (Nat.le_succ _))
    have z3 : w.heap.size ≤ w3.heap.size := by omega
    have y3 : w.heap.size < w3.heap.size := by omega
    obtain ⟨cc3, _⟩ := keepAt B3 (Nat.lt_succ_self _)
    have q0 := cc3 0
    have q1 := cc3 1
    simp at q0 q1
    clear cc3
    go_wp2_with fail
    refine (KO.out _ ((hs.keep H3 (Nat.le_refl _)).more H3.size) ((hsm.keep H3 (Nat.le_refl _)).more H3.size)).mono ?_
    rintro e w4 ⟨A4, c4, D1, D2, rfl, own4, hL, hb4⟩
    have hCo := KS.out D1 D2 hL
    have hHl := bls_len (n := n) D1 D2 t ms.length n
    generalize bls n D1 D2 t ms.length n = Hh at *
    have HCO := Lib.hid hCo
    have HHL := Lib.hid hHl
    clear hCo hHl hL
    have B4 := B3.trans (hb4.mono Z3)
    have Z4 : w.heap.size + 1 ≤ w4.heap.size := by have := B4.size; simp at this; omega
    have H4 := hw0.trans (B4.mono (Nat.le_succ _))
    have z4 : w.heap.size ≤ w4.heap.size := by omega
    have y4 : w.heap.size < w4.heap.size := by omega
    clear q0 q1 hb4 B3 Z3 z3 y3
    obtain ⟨cc4, _⟩ := keepAt B4 (Nat.lt_succ_self _)
    have q0 := cc4 0
    have q1 := cc4 1
    simp at q0 q1
    clear cc4
    go_wp2_with fail
    refine (KC.out _ A4 c4 Hh HHL.out HCO.out ((hs.keep H4 (Nat.le_refl _)).more H4.size) own4.sl.2).mono ?_
    rintro e w5 ⟨rfl, hb5⟩
    have own5 := own4.keep hb5
    clear own4
    have B5 := B4.trans (hb5.mono Z4)
    have Z5 : w.heap.size + 1 ≤ w5.heap.size := by have := B5.size; simp at this; omega
    have H5 := hw0.trans (B5.mono (Nat.le_succ _))
    have z5 : w.heap.size ≤ w5.heap.size := by omega
    have y5 : w.heap.size < w5.heap.size := by omega
    clear q0 q1 hb5 B4 Z4 z4 y4
    obtain ⟨cc5, _⟩ := keepAt B5 (Nat.lt_succ_self _)
    have q0 := cc5 0
    have q1 := cc5 1
    simp at q0 q1
    clear cc5
    have OWN5 := Lib.hid own5
    clear own5
    go_wp2
    go_loopw [47] (fun i wr => ∃ k : Nat, k ≤ n ∧ i = .int .i64 k ∧ Below w5.heap.size w5 wr) (fun i _ => n - (intOf i).toNat)
    case atStart => exact ⟨0, Nat.zero_le _, rfl, Below.refl _ _⟩
    case round =>
      obtain ⟨k, hk, rfl, hB⟩ := hrel
      have HBr := H5.trans (hB.mono z5)
      have B6 := B5.trans (hB.mono Z5)
      clear q0 q1
      obtain ⟨cc6, _⟩ := keepAt B6 (Nat.lt_succ_self _)
      have q0 := cc6 0
      have q1 := cc6 1
      simp at q0 q1
      have zr : w.heap.size < wr.heap.size := by have := hB.size; omega
      clear cc6
      by_cases hlt : k < n
      · have kd := KD.out k (by omega) (by omega)
        have KDK := Lib.hid kd
        have hadm := fun (D : List Int) (hD : Sh n k l D) => HCO.out.adm hD (by omega) (by omega) (by omega) (by omega)
        have HADM := Lib.hid hadm
        clear kd hadm
        go_wp2_with fail
        refine (KDK.out _ ((hs.keep HBr (Nat.le_refl _)).more HBr.size)).mono ?_
        rintro e w8 ⟨S, D, rfl, own8, hb8, hsh⟩
        have hle := HADM.out D hsh.out
        have hDl : D.length = n := by have := hsh.out.len; omega
        have H8 := HBr.trans (hb8.mono HBr.size)
        have hB8 := hB.trans (hb8.mono hB.size)
        have own58 := OWN5.out.keep hB8
        have B8 := B6.trans (hb8.mono (by omega))
        clear q0 q1
        obtain ⟨cc8, _⟩ := keepAt B8 (Nat.lt_succ_self _)
        have q0 := cc8 0
        have q1 := cc8 1
        simp at q0 q1
        clear cc8
        obtain ⟨dc, _⟩ := own_at1 hDl own8 htn
        rw [getD_dg] at dc
        have hsl5 := own58.sl.2
        obtain ⟨ba, oa, rfl, hba, ha⟩ := atD hsl5 (show k < Hh.length by rw [HHL.out]; exact hlt)
        have hd : decide (dg Hh k > dg D t) = false := by simp; omega
        have hd2 : decide (dg D t < dg Hh k) = false := by simp; omega
        have z8 := hB8.size
        have y8 : w.heap.size < w8.heap.size := by omega
        have kk : (k : Int) < n := by omega
        clear hle own8 hb8 hsh hsl5 own58
        generalize dg D (t : Int) = x at *
        generalize dg Hh (k : Int) = y1 at *
        go_wp2
        go_quiet (fail)
        go_wp2
        go_roundw
        case rel => exact ⟨k + 1, by omega, by go_num, below_drewN hB8 _⟩
        case measure => simp [intOf]; omega
      · obtain rfl : k = n := by omega
        go_wp2
        go_ret
        exact ⟨rfl, HBr⟩
  · have ko := fun W h h' => of_no N A c l Am cm ms t W h h' hll hlm hok
    have KO := Lib.hid ko
    clear ko hok
    go_enter Try.func4, Try.ntmps4
    go_wp2_with fail
    refine (two_any _).mono ?_
    rintro e w1 ⟨g, rfl, own1, hb1⟩
    have B1 : Below (w.heap.size + 1) (w.alloc (.cells #[.int .i64 N, .slice A l.length c] 24)) w1 := hb1.mono (by simp)
    have Z1 : w.heap.size + 1 ≤ w1.heap.size := by have := hb1.size; simp at this; omega
    clear hb1
    go_wp2_with fail
    refine (KEY0.out _ _ _ _ (own1.alloc _).sl.2 (sl_new' (by decide) w1 #[.int .i64 0] _ _ rfl rfl)).mono ?_
    rintro e w2 ⟨A2, c2, rfl, own2, hb2⟩
    have B2 := (B1.alloc Z1 (.cells #[.int .i64 0] 3)).trans (hb2.mono (by simp; omega))
    have Z2 : w.heap.size + 1 ≤ w2.heap.size := by have := hb2.size; simp at this; omega
    clear hb2 own1 B1 Z1
    go_wp2_with fail
    refine (KEY1.out _ _ _ _ _ _ _ (own2.alloc _).sl.2 (sl_new' (by decide) w2 #[.int .i64 5, .int .i64 0] _ _ rfl rfl)).mono ?_
    rintro e w3 ⟨rfl, k3, rfl⟩
    have B3 := below_drewN (B2.alloc Z2 (.cells #[.int .i64 5, .int .i64 0] 3)) k3
    generalize hw3 : ((w2.alloc (.cells #[.int .i64 5, .int .i64 0] 3)).drewN k3) = w3 at *
    have Z3 : w.heap.size + 1 ≤ w3.heap.size := by rw [← hw3]; simp; omega
    clear own2 B2 Z2 hw3
    have H3 := hw0.trans (B3.mono (Nat.le_succ _))
    have z3 : w.heap.size ≤ w3.heap.size := by omega
    have y3 : w.heap.size < w3.heap.size := by omega
    obtain ⟨cc3, _⟩ := keepAt B3 (Nat.lt_succ_self _)
    have q0 := cc3 0
    have q1 := cc3 1
    simp at q0 q1
    clear cc3
    go_wp2_with fail
    refine (KO.out _ ((hs.keep H3 (Nat.le_refl _)).more H3.size) ((hsm.keep H3 (Nat.le_refl _)).more H3.size)).mono ?_
    rintro e w4 ⟨x, hx, rfl, hb4⟩
    have hne : (x != 0) = true := by rw [bne_iff_ne]; exact hx
    have H4 := H3.trans (hb4.mono H3.size)
    clear hb4 q0 q1
    go_wp2
    go_ret
    exact ⟨rfl, H4⟩

theorem own : ownKnob Try.prog.godebug = none := by kernel_rfl
theorem laidOut : laidOutB Try.prog = true := by kernel_rfl

set_option maxRecDepth 100000 in
theorem lifted (os : Os) (started : os.Started) (H : Type) (enc : TypeId × Value → H) :
    ReturnsInHanded {} Try.checked os 4 .any (Rows.heurLessSpec.pre6 enc Try.prog Try.f4 Rows.heurLessRow.domain false) (Rows.heurLessSpec.post enc Try.prog Try.f4 false true false false) := by
  refine returnsInHanded_of_change (C := Try.checked) own started (by kernel_rfl) Try.func4
    (ChangeSpec.witness6 (enc := enc) (C := Try.checked) false ⟨#[], #[.agg #[.int .i64 0, .slice none 0 0], .slice none 0 0, .int .i64 0], []⟩ 8 (by kernel_rfl) (by kernel_rfl) (by kernel_rfl) (by kernel_rfl)) ?_
  intro W base args ds gs before hval0 hW hcnd _
  have hval : ∀ (j : Nat) t v, Try.f4.params[j]? = some t → args[j]? = some v → Value.okWide Try.prog W .any base t v := hval0
  have hW' := hW
  obtain ⟨p, q, hA0, hV, rfl, hfz, hnd⟩ := hW
  have hA : DataW.TrodAll enc Try.prog W 0 (fun _ => true) true Try.f4.params.toList args.toList ds p := hA0
  rw [Try.params4] at hA hval
  obtain ⟨v0, vs0, d0, ds0, p0, q0, hargs, rfl, rfl, h0, r0⟩ := trodAll_cons hA
  obtain ⟨v1, vs1, d1, ds1, p1, q1, rfl, rfl, rfl, h1, r1⟩ := trodAll_cons r0
  obtain ⟨v2, vs2, d2, ds2, p2, q2, rfl, rfl, rfl, h2, r2⟩ := trodAll_cons r1
  obtain ⟨rfl, rfl, rfl⟩ := trodAll_nil r2
  obtain rfl : args = #[v0, v1, v2] := by cases args; simp_all
  obtain ⟨rfl, rfl⟩ := trodVars_none hV
  obtain ⟨N0, A0, c0, l0, dd0, rfl, hN0, hG0, hb0, rfl, hd0⟩ := open_net Try.underlying24 (by kernel_rfl) (by kernel_rfl) Try.underlying3 Try.underlying22 Try.underlying60 (by kernel_rfl) (by kernel_rfl) Try.underlying3 Try.underlying3 Try.underlying3 (hval 0 24 v0 rfl rfl) h0
  obtain ⟨A1, c1, l1, rfl, hG1, hd1, hb1⟩ := open_sl1 Try.underlying25 Try.underlying3 (by kernel_rfl) (hval 1 25 v1 rfl rfl) h1
  obtain ⟨a2, rfl, rfl, rfl, wa2⟩ := open_int Try.underlying3 (hval 2 3 v2 rfl rfl) h2
  refine (walk W N0 A0 c0 l0 hG0 A1 c1 l1 hG1 a2 (wf_bd wa2)).mono fun e W' ⟨he, hB⟩ => ?_
  subst he
  exact ⟨_, rfl, post_of_law laidOut rfl Try.underlying4 rfl (by intro t ht; rw [Try.params4] at ht; simp at ht; rcases ht with rfl | rfl | rfl <;> exact ⟨by kernel_rfl, of_decide_eq_true (by kernel_rfl)⟩) hW' rfl hB⟩

theorem holds : Rows.HeurLessSaid :=
  OpenClaim.holds_of_wide 4 Try.f4 rfl rfl rfl rfl rfl rfl rfl ⟨rfl, rfl, rfl, rfl, rfl⟩ rfl rfl rfl rfl rfl (by kernel_rfl) Try.func4 (by kernel_rfl)
    (of_decide_eq_true (by kernel_rfl)) (by unfold Func.isWrapper; first | (rw [if_pos (by decide +kernel)]; kernel_rfl) | (rw [if_neg (by decide +kernel)]; exact ⟨rfl, rfl⟩))
    (fun os started H enc _ => lifted os started H enc)
#print axioms holds
end Go.Proofs.Ytdpjbjgecmnmnaa.HeurLessLaw
