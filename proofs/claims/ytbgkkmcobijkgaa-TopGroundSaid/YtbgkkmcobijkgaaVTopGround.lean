/- For every grid, two numbers and a side of squares: TopGround answers true (ground that is printed and read has the same net; there and back costs the same; over doors too), and the arguments read as before. No condition. -/
import Derived.Test.YtbgkkmcobijkgaaRows
import Derived.Test.YtbgkkmcobijkgaaVOpen
import Derived.Test.YtbgkkmcobijkgaaVHierFn2
import Derived.Test.YtbgkkmcobijkgaaVMapsWalks
import Derived.Test.YtbgkkmcobijkgaaVTopLaw
import Derived.Test.YtbgkkmcobijkgaaVDijkTurnsLaw
import Derived.BigQuiet
namespace Go.Proofs.Ytbgkkmcobijkgaa.TopGroundLaw
open NetLaw hiding E
open DijkTurnsPlain
open Go.ChangeShapes Go.WideShapes Go.ChangeAt Go.RowKit Go.Proofs.Ytbgkkmcobijkgaa BellLaw DijkLaw GridLaw GroundLaw HierLaw MapsLaw Go.Proofs.Ytbgkkmcobijkgaa.Grid Go.Proofs.Ytbgkkmcobijkgaa.Maps Go.Proofs.Ytbgkkmcobijkgaa.Net Go.Proofs.Ytbgkkmcobijkgaa.NetOf Go.Proofs.Ytbgkkmcobijkgaa.Std Go.Proofs.Ytbgkkmcobijkgaa.Hier Go.Proofs.Ytbgkkmcobijkgaa.Within
set_option linter.unusedSimpArgs false
set_option linter.unusedVariables false
theorem wk_sub {l m : List NetLaw.E} (h : ∀ e ∈ l, e ∈ m) {a v d : Int} (hw : Wk l a v d) : Wk m a v d := by
  induction hw with
  | here => exact Wk.here
  | step hu he hf ih => exact Wk.step ih (h _ he) hf
theorem same_back {N a b : Int} {l : List NetLaw.E} {D M : List Int} (hD : Sh N a l D) (hM : Sh N b l M) (hends : ∀ e ∈ l, 0 ≤ e.1 ∧ e.1 < N ∧ 0 ≤ e.2.1 ∧ e.2.1 < N) (hc : ∀ e ∈ l, 0 ≤ e.2.2) (ha : 0 ≤ a ∧ a < N) (hb : 0 ≤ b ∧ b < N) (hback : ∀ e ∈ turned l, e ∈ l) : dg D b = dg M a := by
  have h1 := hD.lo b hb.1 hb.2
  have h2 := hM.lo a ha.1 ha.2
  have key : ∀ {x y : Int} {P Q : List Int}, Sh N x l P → Sh N y l Q → 0 ≤ x ∧ x < N → 0 ≤ y ∧ y < N → dg P y < far → dg Q x ≤ dg P y := fun hP hQ hx hy hlt =>
    hQ.walk_le hends (wk_sub hback (wk_turn (hP.wk _ hy.1 hy.2 hlt))) hlt hc
  by_cases h3 : dg D b < far
  · have h4 := key hD hM ha hb h3
    have h5 := key hM hD hb ha (by omega)
    omega
  · by_cases h4 : dg M a < far
    · have h5 := key hM hD hb ha h4
      omega
    · omega
set_option maxRecDepth 100000 in
set_option maxHeartbeats 8000000 in
theorem walk (w : World) (W H : Int) (A : Option Addr) (c : Nat) (l : List Int) (hW : -9223372036854775808 ≤ W ∧ W ≤ 9223372036854775807) (hH : -9223372036854775808 ≤ H ∧ H ≤ 9223372036854775807) (hA : Arg w 1 ci A c l) (a : Int) (ha : -9223372036854775808 ≤ a ∧ a ≤ 9223372036854775807) (b : Int) (hb : -9223372036854775808 ≤ b ∧ b ≤ 9223372036854775807) (k : Int) (hk : -9223372036854775808 ≤ k ∧ k ≤ 9223372036854775807) :
    Calls Try.prog 14 #[.agg #[.int .i64 W, .int .i64 H, .slice A l.length c], .int .i64 a, .int .i64 b, .int .i64 k] w fun e w' => e = .returned (.bool true) ∧ Below w.heap.size w w' := by
  have hs := hA.sl
  have hll : l.length ≤ 9223372036854775807 := Nat.le_trans hA.cap hA.max
  clear hA hW hH ha hb hk
  have GB := Lib.hid (fun X hX => gbox (c := c) (W := W) (H := H) (X := X) hs hX)
  have HB0 := Lib.hid (Below.refl (w.heap.size + 1) (w.alloc (.cells #[.int .i64 W, .int .i64 H, .slice A l.length c] 24)))
  have KBEG := Lib.hid (fun W' => TopLaw.begun_any W')
  by_cases hg : gchk W H l = 0
  · have hgg := gchk_zero.1 hg
    have hgood := ground_good hgg
    have hpos := ground_pos hgg
    have hsz := size_bd hgg
    have hback := ground_back hgg
    have h6 := hgood.len
    have hrd := rd_of_good hgg
    have hw0 : ((W.toNat : Nat) : Int) = W := Int.toNat_of_nonneg (by have := hgg.w1; omega)
    have hh0 : ((H.toNat : Nat) : Int) = H := Int.toNat_of_nonneg (by have := hgg.h1; omega)
    have kp := fun W' h => print_yes W H A l.length c l W' rfl h hgg
    have hsmall := pr_small (W := W.toNat) (by have := hgg.w1; omega) l l.length
    rw [List.take_length] at hsmall
    have kr : ∀ W' : World, Calls Try.prog 42 #[.string ⟨(pr W.toNat 0 l).toArray⟩] W' fun e w' => ∃ A' c', e = .returned (.tuple #[.agg #[.int .i64 W, .int .i64 H, .slice A' l.length c'], .int .i64 0]) ∧ Own w' W'.heap.size 3 1 ci (.slice A' l.length c') l ∧ Below W'.heap.size W' w' := fun W' => by
      refine (read_any ⟨(pr W.toNat 0 l).toArray⟩ W' (by simp [ByteArray.size]; omega)).mono ?_
      rintro e w' ⟨h3, hb3⟩
      rcases h3 with ⟨W2, H2, l2, A', m, c', hr, rfl, hm, own⟩ | ⟨hno, _⟩
      · obtain ⟨e1, e2, e3⟩ := hrd.unique (by simpa using hr)
        subst e1 e2 e3
        subst hm
        exact ⟨A', c', by rw [hw0, hh0], own, hb3⟩
      · exact absurd (by simpa using hrd) (hno W.toNat H.toNat l)
    have kof := fun A' c' W' h => of_yes W H A' c' l W' h hgg
    obtain ⟨n, hn⟩ : ∃ n, l.length = n := ⟨_, rfl⟩
    obtain ⟨all, hall⟩ : ∃ all, allM W H l l.length = all := ⟨_, rfl⟩
    obtain ⟨ml, hml⟩ : ∃ ml, all.length = ml := ⟨_, rfl⟩
    have ⟨_, ha1⟩ := wi_spec a n (by omega) (by omega)
    have ⟨_, hb1⟩ := wi_spec b n (by omega) (by omega)
    have ⟨_, hk1⟩ := wi_spec k 8 (by omega) (by omega)
    have k3 := fun w => Within.within_any a n (by omega) (by omega) w
    have k4 := fun w => Within.within_any b n (by omega) (by omega) w
    have k5 := fun w => Within.within_any k 8 (by omega) (by omega) w
    obtain ⟨a', ha'⟩ : ∃ a', wi a n = a' := ⟨_, rfl⟩
    obtain ⟨b', hb'⟩ : ∃ b', wi b n = b' := ⟨_, rfl⟩
    obtain ⟨k', hk'⟩ : ∃ k', wi k 8 = k' := ⟨_, rfl⟩
    rw [ha'] at ha1 k3
    rw [hb'] at hb1 k4
    rw [hk'] at hk1 k5
    have kh := fun W' h => dist_yes W H (1 + (k' : Int)) a' b' A n c l W' hn h hgg (by omega) (by omega) ha1 hb1
    rw [hall] at kof hgood hpos hback h6
    rw [hn] at kof hgood kr kp hsz hll
    have hall' : allM W H l n = all := by rw [← hn]; exact hall
    rw [hall'] at kh
    have kd := fun (v : Nat) (hv : v < n) A' c' W' h => Dijk.dist_any (n : Int) A' c' all (v : Int) W' h (by omega)
    have hlook : ∀ v : Nat, v < n → Dijk.look (n : Int) all [(v : Int)] = 0 := fun v hv => by rw [look_ground hgood hpos, if_neg (by omega)]
    have kdy := fun (v : Nat) (hv : v < n) A' c' W' h => DijkTwo.dist_yes (n : Int) A' c' all (v : Int) (by omega) (hlook v hv) W' h
    simp only [Int.toNat_natCast] at kdy
    unfold SomeOf at kof
    rw [hml] at kof kdy
    have hsame := fun (D M : List Int) (hD : Sh n a' all D) (hM : Sh n b' all M) => same_back hD hM hgood.ends (fun e he => by have := hpos e he; omega) (by omega) (by omega) (fun e he => by
      unfold turned at he
      obtain ⟨x, hx, rfl⟩ := List.mem_map.1 he
      have h1 := hback x hx
      unfold tl at h1
      obtain ⟨y, hy, hyx⟩ := List.mem_map.1 h1
      have e1 : y = (x.2.1, x.1, x.2.2) := by
        rw [← hyx]
      rw [← e1]
      exact hy)
    obtain ⟨s, hs0⟩ : ∃ s : ByteArray, s = ⟨(pr W.toNat 0 l).toArray⟩ := ⟨_, rfl⟩
    rw [← hs0] at kp kr
    rw [hn] at GB HB0 ⊢
    have KP := Lib.hid kp
    have KR := Lib.hid kr
    have KOF := Lib.hid kof
    have K3 := Lib.hid k3
    have K4 := Lib.hid k4
    have K5 := Lib.hid k5
    have KH := Lib.hid kh
    have KD := Lib.hid kdy
    have HSAME := Lib.hid hsame
    have hk8 : IntKind.i64.wrap (1 + (k' : Int)) = 1 + (k' : Int) := IntWalk.i64_in _ (by omega)
    clear kp kr kof k3 k4 k5 kh kd kdy hsame hlook hs0 ha' hb' hk' hall hall' hml hn hrd hw0 hh0 hsmall hback hpos hgood hgg hg hs hll
    go_enter Try.func14, Try.ntmps14
    obtain ⟨⟨q0, q1, q2⟩, sl, _, _⟩ := GB.out _ HB0.out
    go_wp2_with fail
    refine (KP.out _ sl).mono ?_
    rintro e w1 ⟨rfl, hb1'⟩
    have B1 := HB0.out.trans (hb1'.mono (by simp))
    have Z1 : w.heap.size + 1 ≤ w1.heap.size := by have := B1.size; simpa using this
    clear q0 q1 q2 sl hb1'
    go_wp2_with fail
    refine (KBEG.out _).mono ?_
    rintro e w2 ⟨rfl, hb2⟩
    have B2 := B1.trans (hb2.mono Z1)
    have Z2 := Nat.le_trans Z1 hb2.size
    clear hb2 B1 Z1
    go_wp2_with fail
    refine (KR.out _).mono ?_
    rintro e w3 ⟨A3, c3, rfl, own3, hb3⟩
    have B3 := B2.trans (hb3.mono Z2)
    have Z3 := Nat.le_trans Z2 hb3.size
    have B3a := B3.alloc Z3 (.cells #[.int .i64 W, .int .i64 H, .slice A3 n c3] 24)
    have sl3 := (own3.alloc (.cells #[.int .i64 W, .int .i64 H, .slice A3 n c3] 24)).sl.2
    obtain ⟨x0, x1, x2⟩ := cells3 (heap_alloc_new w3 (.cells #[.int .i64 W, .int .i64 H, .slice A3 n c3] 24))
    clear hb3 B2 Z2 own3 B3
    go_wp2_with fail
    refine (KOF.out _ _ _ sl3).mono ?_
    rintro e w4 ⟨A4, c4, rfl, own4, hb4⟩
    have B4 := B3a.trans (hb4.mono (by simp; omega))
    have Z4 : w.heap.size + 1 ≤ w4.heap.size := by have := B4.size; simpa using this
    have B5 := B4.alloc Z4 (.cells #[.int .i64 n, .slice A4 ml c4] 32)
    have NB := Lib.hid (Below.refl (w4.heap.size + 1) (w4.alloc (.cells #[.int .i64 n, .slice A4 ml c4] 32)))
    have hnk : ∀ X, Below (w4.heap.size + 1) (w4.alloc (.cells #[.int .i64 n, .slice A4 ml c4] 32)) X → X.cell? ⟨w4.heap.size, 0, none⟩ = some (.int .i64 n) ∧ X.cell? ⟨w4.heap.size, 1, none⟩ = some (.slice A4 ml c4) ∧ w4.heap.size + 1 ≤ X.heap.size ∧ Sl X X.heap.size 3 ce A4 all := fun X hX => by
      have hz : w4.heap.size + 1 ≤ X.heap.size := by have := hX.size; simpa using this
      have hY := ((Below.refl w4.heap.size w4).alloc (Nat.le_refl _) (.cells #[.int .i64 n, .slice A4 ml c4] 32)).trans (hX.mono (Nat.le_succ _))
      obtain ⟨y1, _⟩ := keepAt hX (Nat.lt_succ_self _)
      exact ⟨(y1 0).trans (by simp), (y1 1).trans (by simp), hz, (own4.sl.2.keep hY (Nat.le_refl _)).more (by omega)⟩
    have NK := Lib.hid hnk
    clear hnk hb4 sl3 x0 x1 x2 B3a B4 own4 Z3
    obtain ⟨y0, y1, _, _⟩ := NK.out _ NB.out
    go_upto_region 8 with fail
    go_quiet ((go_at_call 34; first | (with_reducible exact Calls.quiet_of_same (K3.out _)) | (with_reducible exact Calls.quiet_of_same (K4.out _)) | (with_reducible exact Calls.quiet_of_same (K5.out _))))
    have B5q := below_drewN B5 nq
    have NBq := below_drewN NB.out nq
    generalize (w4.alloc (.cells #[.int .i64 n, .slice A4 ml c4] 32)).drewN nq = w5 at B5q NBq ⊢
    clear y0 y1 B5
    obtain ⟨y0, y1, Z5, sn⟩ := NK.out _ NBq
    have Zb5 : w.heap.size + 1 ≤ w5.heap.size := by omega
    have ha2 : (a' : Int) < (n : Int) := by omega
    have hb2' : (b' : Int) < (n : Int) := by omega
    go_wp2_with fail
    refine (KD.out a' ha1 _ _ _ sn).mono ?_
    rintro e w6 ⟨S6, D, rfl, own6, hb6, hsh6⟩
    have N6 := NBq.trans (hb6.mono Z5)
    have B6 := B5q.trans (hb6.mono Zb5)
    have OWN6 := Lib.hid own6
    have HSH6 := Lib.hid hsh6.out
    clear y0 y1 Z5 sn Zb5 own6 hsh6 hb6 B5q NBq
    obtain ⟨y0, y1, Z6, sn⟩ := NK.out _ N6
    go_wp2_with fail
    refine (KD.out b' hb1 _ _ _ sn).mono ?_
    rintro e w7 ⟨S7, M, rfl, own7, hb7, hsh7⟩
    have B7 := B6.trans (hb7.mono (show w.heap.size + 1 ≤ w6.heap.size by omega))
    have OWN67 := Lib.hid (OWN6.out.keep hb7)
    have OWN7 := Lib.hid own7
    have HSH7 := Lib.hid hsh7.out
    clear y0 y1 Z6 sn own7 hsh7 hb7 B6 N6 OWN6
    obtain ⟨⟨q0, q1, q2⟩, sl, _, Z7⟩ := GB.out _ B7
    go_wp2_with fail
    refine (KH.out _ sl).mono ?_
    rintro e w8 ⟨y, HY, hy0, hb8, hc8⟩
    have hfin := (GB.out _ (B7.trans (hb8.out.mono Z7))).2.2.1
    have hD := HY.out.1 D HSH6.out
    have hM := HSAME.out D M HSH6.out HSH7.out
    rw [hD] at hM
    have o6 := OWN67.out.keep hb8.out
    have o7 := OWN7.out.keep hb8.out
    obtain ⟨dc, _⟩ := own_at1 (by have := HSH6.out.len; omega) o6 hb1
    obtain ⟨mc, _⟩ := own_at1 (by have := HSH7.out.len; omega) o7 ha1
    have hDd : D.getD b' 0 = y := by rw [← hD, dg, Int.toNat_natCast]
    have hMd : M.getD a' 0 = y := by rw [hM, dg, Int.toNat_natCast]
    rw [hDd] at dc
    rw [hMd] at mc
    have hS6 := (o6.base_ S6 rfl).2
    have hS7 := (o7.base_ S7 rfl).2
    have HFIN := Lib.hid hfin
    clear hD hM hDd hMd o6 o7 q0 q1 q2 sl Z7 B7 HY hb8 hfin
    rcases hc8 with ⟨hy, rfl⟩ | ⟨hy, rfl⟩
    · unfold far at hy
      subst hy
      go_wp2
      go_quiet (fail)
      go_wp2
      go_ret
      exact ⟨rfl, by first | exact HFIN.out | exact below_drewN HFIN.out _⟩
    · have hyy : (y == y) = true := by simp
      clear hy
      go_wp2
      go_quiet (fail)
      go_wp2
      go_ret
      exact ⟨rfl, by first | exact HFIN.out | exact below_drewN HFIN.out _⟩
  · have kp := fun W' h => print_no W H A l.length c l W' rfl h hll hg
    have hne : (gchk W H l != 0) = true := by rw [bne_iff_ne]; exact hg
    generalize gchk W H l = er at *
    have KP := Lib.hid kp
    clear kp hg hs hll
    go_enter Try.func14, Try.ntmps14
    obtain ⟨⟨q0, q1, q2⟩, sl, _, _⟩ := GB.out _ HB0.out
    go_wp2_with fail
    refine (KP.out _ sl).mono ?_
    rintro e w1 ⟨rfl, hb1'⟩
    have B1 := HB0.out.trans (hb1'.mono (by simp))
    have H1 := (GB.out _ B1).2.2.1
    clear q0 q1 q2 sl hb1' B1
    go_wp2_with fail
    refine (KBEG.out _).mono ?_
    rintro e w2 ⟨rfl, hb2⟩
    have H2 := H1.trans (hb2.mono H1.size)
    clear hb2 H1
    go_wp2_with fail
    refine (KBEG.out _).mono ?_
    rintro e w3 ⟨rfl, hb3⟩
    have H3 := H2.trans (hb3.mono H2.size)
    clear hb3 H2
    go_wp2
    go_ret
    exact ⟨rfl, H3⟩

theorem own : ownKnob Try.prog.godebug = none := by kernel_rfl
theorem laidOut : laidOutB Try.prog = true := by kernel_rfl

set_option maxRecDepth 100000 in
theorem lifted (os : Os) (started : os.Started) (H : Type) (enc : TypeId × Value → H) :
    ReturnsInHanded {} Try.checked os 14 .any (Rows.topGroundSpec.pre6 enc Try.prog Try.f14 Rows.topGroundRow.domain false) (Rows.topGroundSpec.post enc Try.prog Try.f14 false true false false) := by
  refine returnsInHanded_of_change (C := Try.checked) own started (by kernel_rfl) Try.func14
    (ChangeSpec.witness6 (enc := enc) (C := Try.checked) false ⟨#[], #[.agg #[.int .i64 0, .int .i64 0, .slice none 0 0], .int .i64 0, .int .i64 0, .int .i64 0], []⟩ 8 (by kernel_rfl) (by kernel_rfl) (by kernel_rfl) (by kernel_rfl)) ?_
  intro W base args ds gs before hval0 hW hcnd _
  have hval : ∀ (j : Nat) t v, Try.f14.params[j]? = some t → args[j]? = some v → Value.okWide Try.prog W .any base t v := hval0
  have hW' := hW
  obtain ⟨p, q, hA0, hV, rfl, hfz, hnd⟩ := hW
  have hA : DataW.TrodAll enc Try.prog W 0 (fun _ => true) true Try.f14.params.toList args.toList ds p := hA0
  rw [Try.params14] at hA hval
  obtain ⟨v0, vs0, d0, ds0, p0, q0, hargs, rfl, rfl, h0, r0⟩ := trodAll_cons hA
  obtain ⟨v1, vs1, d1, ds1, p1, q1, rfl, rfl, rfl, h1, r1⟩ := trodAll_cons r0
  obtain ⟨v2, vs2, d2, ds2, p2, q2, rfl, rfl, rfl, h2, r2⟩ := trodAll_cons r1
  obtain ⟨v3, vs3, d3, ds3, p3, q3, rfl, rfl, rfl, h3, r3⟩ := trodAll_cons r2
  obtain ⟨rfl, rfl, rfl⟩ := trodAll_nil r3
  obtain rfl : args = #[v0, v1, v2, v3] := by cases args; simp_all
  obtain ⟨rfl, rfl⟩ := trodVars_none hV
  obtain ⟨W0, H0, A0, c0, l0, dd0, rfl, hW0, hH0, hG0, hb0, rfl, hd0⟩ := open_grid Try.underlying24 (by kernel_rfl) (by kernel_rfl) Try.underlying3 Try.underlying3 Try.underlying22 Try.underlying3 (by kernel_rfl) (hval 0 24 v0 rfl rfl) h0
  obtain ⟨a1, rfl, rfl, rfl, wa1⟩ := open_int Try.underlying3 (hval 1 3 v1 rfl rfl) h1
  obtain ⟨a2, rfl, rfl, rfl, wa2⟩ := open_int Try.underlying3 (hval 2 3 v2 rfl rfl) h2
  obtain ⟨a3, rfl, rfl, rfl, wa3⟩ := open_int Try.underlying3 (hval 3 3 v3 rfl rfl) h3
  refine (walk W W0 H0 A0 c0 l0 hW0 hH0 hG0 a1 (wf_bd wa1) a2 (wf_bd wa2) a3 (wf_bd wa3)).mono fun e W' ⟨he, hB⟩ => ?_
  subst he
  exact ⟨_, rfl, post_of_law laidOut rfl Try.underlying4 rfl (by intro t ht; rw [Try.params14] at ht; simp at ht; rcases ht with rfl | rfl | rfl | rfl <;> exact ⟨by kernel_rfl, of_decide_eq_true (by kernel_rfl)⟩) hW' rfl hB⟩

theorem holds : Rows.TopGroundSaid :=
  OpenClaim.holds_of_wide 14 Try.f14 rfl rfl rfl rfl rfl rfl rfl ⟨rfl, rfl, rfl, rfl, rfl⟩ rfl rfl rfl rfl rfl (by kernel_rfl) Try.func14 (by kernel_rfl)
    (of_decide_eq_true (by kernel_rfl)) (by unfold Func.isWrapper; first | (rw [if_pos (by decide +kernel)]; kernel_rfl) | (rw [if_neg (by decide +kernel)]; exact ⟨rfl, rfl⟩))
    (fun os started H enc _ => lifted os started H enc)
#print axioms holds
end Go.Proofs.Ytbgkkmcobijkgaa.TopGroundLaw
