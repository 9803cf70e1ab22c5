/- For every grid, two places and list of weights that are not too long in all: ServeOwn answers true (a service has its ground and weights as copies, and what it tells is a copy), and the arguments read as before. Condition: the lists together are no longer than 1048576. -/
import Derived.Test.YtpoolpaagbeokaaRows
import Derived.Test.YtpoolpaagbeokaaVStdRatio
import Derived.Test.YtpoolpaagbeokaaVBulk
import Derived.IntWalk
namespace Go.Proofs.Ytpoolpaagbeokaa.ServeOwnLaw
open Go.ChangeShapes Go.WideShapes Go.ChangeAt Go.RowKit Go.Proofs.Ytpoolpaagbeokaa NetLaw BellLaw StarLaw AraLaw Go.Proofs.Ytpoolpaagbeokaa.Net Go.Proofs.Ytpoolpaagbeokaa.Std Go.Proofs.Ytpoolpaagbeokaa.Flow Go.Proofs.Ytpoolpaagbeokaa.Ara Go.Proofs.Ytpoolpaagbeokaa.GroundLaw
open Go.Proofs.Ytpoolpaagbeokaa.GridLaw hiding E
open Go.Proofs.Ytpoolpaagbeokaa.ServeLaw Go.Proofs.Ytpoolpaagbeokaa.Serve
open Go.Proofs.Ytpoolpaagbeokaa.Room
open Go.Proofs.Ytpoolpaagbeokaa.StarF (slook slook_any slook_zero)
set_option linter.unusedSimpArgs false
set_option linter.unusedVariables false
theorem grid_cells {w : World} {g : Nat} {x y z : Value} (h : w.heap[g]? = some (.cells #[x, y, z] 24 (0, 0))) : w.cell? ⟨g, 0, none⟩ = some x ∧ w.cell? ⟨g, 1, none⟩ = some y ∧ w.cell? ⟨g, 2, none⟩ = some z ∧ w.frozen? ⟨g, 0, none⟩ = false ∧ w.frozen? ⟨g, 1, none⟩ = false ∧ w.frozen? ⟨g, 2, none⟩ = false :=
  ⟨blk_cell h 0, blk_cell h 1, blk_cell h 2, blk_free h 0, blk_free h 1, blk_free h 2⟩
theorem clone_i (A : Option Addr) (c : Nat) (l : List Int) (hA : A = none → l.length = 0 ∧ c = 0) (hlen : l.length ≤ 1048576) (W : World) (h : Sl W W.heap.size 1 ci A l) : Calls Try.prog 27 #[.slice A l.length c] W fun e w' => ∃ A' c', e = .returned (.slice A' l.length c') ∧ Own w' W.heap.size 3 1 ci (.slice A' l.length c') l ∧ Below W.heap.size W w' := by
  refine (clone_int A c l W.heap.size W h (Nat.le_refl _) hA (by omega)).mono ?_
  rintro e w' ⟨A', c', h1, h2, h3⟩
  exact ⟨A', c', h1, h2, h3⟩
theorem clone_r (A : Option Addr) (c : Nat) (l : List (Int × Int)) (hA : A = none → l.length = 0 ∧ c = 0) (hlen : l.length ≤ 1048576) (W : World) (h : Sl W W.heap.size 2 cp A l) : Calls Try.prog 29 #[.slice A l.length c] W fun e w' => ∃ A' c', e = .returned (.slice A' l.length c') ∧ Own w' W.heap.size 39 2 cp (.slice A' l.length c') l ∧ Below W.heap.size W w' := by
  refine (clone_ratio A c l W.heap.size W h (Nat.le_refl _) hA (by omega)).mono ?_
  rintro e w' ⟨A', c', h1, h2, h3⟩
  exact ⟨A', c', h1, h2, h3⟩
theorem own_nil_ {α : Type} {w : World} {b : Nat} {e : TypeId} {sz : Nat} {cell : α → Nat → Value} {A : Option Addr} {n c : Nat} {l : List α} (h : Own w b e sz cell (.slice A n c) l) : (A = none → l.length = 0 ∧ c = 0) ∧ n ≤ c := by
  obtain ⟨A', c', hv, hc, hn⟩ := h.form
  injection hv with h1 h2 h3
  subst h1 h3
  exact ⟨hn, by omega⟩
set_option maxRecDepth 100000 in
set_option maxHeartbeats 16000000 in
theorem walk (w : World) (W H : Int) (A : Option Addr) (c : Nat) (l : List Int) (hW : -9223372036854775808 ≤ W ∧ W ≤ 9223372036854775807) (hH : -9223372036854775808 ≤ H ∧ H ≤ 9223372036854775807) (hA : Arg w 1 ci A c l) (f : Int) (hf : -9223372036854775808 ≤ f ∧ f ≤ 9223372036854775807) (t : Int) (ht : -9223372036854775808 ≤ t ∧ t ≤ 9223372036854775807) (Aw : Option Addr) (cw : Nat) (ws : List (Int × Int)) (hAw : Arg w 2 cp Aw cw ws) (hbulk : l.length + ws.length ≤ 1048576) :
    Calls Try.prog 7 #[.agg #[.int .i64 W, .int .i64 H, .slice A l.length c], .int .i64 f, .int .i64 t, .slice Aw ws.length cw] w fun e w' => e = .returned (.bool true) ∧ Below w.heap.size w w' := by
  have hs := hA.sl
  have n1 := hA.nil
  have hll : l.length ≤ 1048576 := by omega
  have hws := hAw.sl
  have n2 := hAw.nil
  have hwl : ws.length ≤ 1048576 := by omega
  clear hA hAw hW hH hf ht hbulk
  have HK := Lib.hid (fun X hX => sbox (X := X) (W := W) (H := H) (c := c) hs hX)
  have HWS := Lib.hid hws
  have kci := fun W' h1 => clone_i A c l n1 hll W' h1
  have kcr := fun W' h1 => clone_r Aw cw ws n2 hwl W' h1
  have KCI := Lib.hid kci
  have KCR := Lib.hid kcr
  have B1 := Lib.hid (Below.refl (w.heap.size + 1) (w.alloc (.cells #[.int .i64 W, .int .i64 H, .slice A l.length c] 24)))
  clear hs hws n1 n2 kci kcr
  go_enter Try.func7, Try.ntmps7
  go_upto_region 1 with fail
  have hw1 : w.heap.size + 1 ≤ (w.alloc (.cells #[.int .i64 W, .int .i64 H, .slice A l.length c] 24)).heap.size := by simp
  obtain ⟨⟨q0, q1, q2⟩, sg, H1, Z1⟩ := HK.out _ B1.out
  generalize hgb : (w.alloc (.cells #[.int .i64 W, .int .i64 H, .slice A l.length c] 24)) = w1 at q0 q1 q2 sg H1 Z1 hw1 ⊢
  have B1w : Hid (Below (w.heap.size + 1) (w.alloc (.cells #[.int .i64 W, .int .i64 H, .slice A l.length c] 24)) w1) := Lib.hid (by rw [← hgb]; exact B1.out)
  clear hgb B1
  have zq : w.heap.size < w1.heap.size := Z1
  have hcl : ∀ wd : World, Below w1.heap.size w1 wd → wd.cell? ⟨w.heap.size, 0, none⟩ = some (.int .i64 W) ∧ wd.cell? ⟨w.heap.size, 1, none⟩ = some (.int .i64 H) ∧ wd.cell? ⟨w.heap.size, 2, none⟩ = some (.slice A l.length c) := fun wd hbd => ⟨below_cells hbd zq q0, below_cells hbd zq q1, below_cells hbd zq q2⟩
  have hke := fun (W' : World) (hW : Below w1.heap.size w1 W') => KCI.out W' ((sg.keep hW (Nat.le_refl _)).more hW.size)
  have HCL := Lib.hid hcl
  have HKE := Lib.hid hke
  have BA := Lib.hid ((Below.refl w1.heap.size w1).alloc (Nat.le_refl _) (.cells #[.int .i64 0, .int .i64 0, .slice none 0 0] 24)).drew
  have RA := Lib.hid (show ((w1.alloc (.cells #[.int .i64 0, .int .i64 0, .slice none 0 0] 24)).drew).heap[w1.heap.size]? = _ from heap_alloc_new w1 (.cells #[.int .i64 0, .int .i64 0, .slice none 0 0] 24))
  have hca := HCL.out _ BA.out
  clear hcl hke sg H1 KCI
  go_cut [9] from 20 to 28 (fun s9 wx => ∃ (X : Nat) (A9 : Option Addr) (c9 : Nat), s9 = .pointer (some ⟨X, 0, none⟩) ∧ w1.heap.size ≤ X ∧ Hid (wx.heap[X]? = some (.cells #[.int .i64 W, .int .i64 H, .slice A9 l.length c9] 24 (0, 0))) ∧ Hid (Own wx w1.heap.size 3 1 ci (.slice A9 l.length c9) l) ∧ Hid (Below w1.heap.size w1 wx))
  case first =>
    go_region_held3 (fun wd => wd.cell? ⟨w.heap.size, 0, none⟩ = some (.int .i64 W) ∧ wd.cell? ⟨w.heap.size, 1, none⟩ = some (.int .i64 H) ∧ wd.cell? ⟨w.heap.size, 2, none⟩ = some (.slice A l.length c))
      (first
        | go_keep
        | exact hca
        | exact p8
        | exact p7)
      (first
        | (go_at_call 27; refine (HKE.out _ (by with_reducible exact (Below.refl _ _).drew)).mono ?_; rintro e w6 ⟨A9, c9, rfl, own6, hb6⟩; have hb7 := (Below.refl w1.heap.size w1).drew.trans (hb6.mono (Nat.le_refl _)); have p8 := HCL.out _ hb7; have HOW := Lib.hid (own6.mono (Nat.le_refl _)); have HB7 := Lib.hid hb7; clear own6 hb6 hb7)
        | (go_at_call 27; refine (HKE.out _ (by with_reducible exact BA.out)).mono ?_; rintro e w6 ⟨A9, c9, rfl, own6, hb6⟩; have hb7 := BA.out.trans (hb6.mono (by simp)); have p8 := HCL.out _ hb7; have hr6 := blk_below RA.out hb6 (by simp); obtain ⟨d0, d1, d2, e0, e1, e2⟩ := grid_cells hr6; have hR6 := lt_of_block hr6; have HOW := Lib.hid (own6.mono (base' := w1.heap.size) (by simp)); have HB7 := Lib.hid hb7; have p7 := HCL.out _ (((hb7.setCell (p := ⟨w1.heap.size, 0, none⟩) (Nat.le_refl _) (.int .i64 W)).setCell (p := ⟨w1.heap.size, 1, none⟩) (Nat.le_refl _) (.int .i64 H)).setCell (p := ⟨w1.heap.size, 2, none⟩) (Nat.le_refl _) (.slice A9 l.length c9)); have HR6 := Lib.hid hr6; clear own6 hb6 hb7 hr6))
    all_goals
      try simp only [Act.put, List.getElem_toArray, List.getElem_cons_succ, List.getElem_cons_zero, List.setIfInBounds_toArray, List.set_cons_zero, List.set_cons_succ]
      go_wp2_with fail
      go_meet
      first
        | exact ⟨_, A9, c9, rfl, HB7.out.size, Lib.hid (heap_alloc_new _ _), Lib.hid (HOW.out.alloc _), Lib.hid (HB7.out.alloc HB7.out.size _)⟩
        | exact ⟨_, A9, c9, rfl, Nat.le_refl _, Lib.hid (blk_set (blk_set (blk_set HR6.out 0 _) 1 _) 2 _), Lib.hid (((HOW.out.setCell (HOW.out.ne_ HR6.out (by decide)) _).setCell (HOW.out.ne_ HR6.out (by decide)) _).setCell (HOW.out.ne_ HR6.out (by decide)) _), Lib.hid (((HB7.out.setCell (p := ⟨w1.heap.size, 0, none⟩) (Nat.le_refl _) _).setCell (p := ⟨w1.heap.size, 1, none⟩) (Nat.le_refl _) _).setCell (p := ⟨w1.heap.size, 2, none⟩) (Nat.le_refl _) _)⟩
  case rest =>
  obtain ⟨X, A9, c9, rfl, hX, HRX, HO9, HB2⟩ := hcut
  clear HCL HKE BA RA hca q0 q1 q2 zq
  have B2 := Lib.hid (B1w.out.trans (HB2.out.mono Z1))
  obtain ⟨x0, x1, x2, _, _, _⟩ := grid_cells HRX.out
  have zX := lt_of_block HRX.out
  obtain ⟨hn9, hc9⟩ := own_nil_ HO9.out
  by_cases hg : gchk W H l = 0
  · have gg := gchk_zero.1 hg
    clear hg
    have kn := new_g W H A9 c9 l wc HO9.out.sl.2 hn9 gg
    have KN := Lib.hid kn
    have HGG := Lib.hid gg
    clear kn gg
    go_wp2_with fail
    refine KN.out.mono ?_
    rintro e w4 ⟨Z4, A4, c4, rfl, sv4, hb4⟩
    have Z3 : w.heap.size + 1 ≤ wc.heap.size := (HK.out _ B2.out).2.2.2
    have B4 := Lib.hid (B2.out.trans (hb4.mono Z3))
    have SV4 := Lib.hid sv4
    have hrx4 := blk_below HRX.out hb4 (lt_of_block HRX.out)
    have own4 := HO9.out.keep hb4
    obtain ⟨x0, x1, x2, _, _, _⟩ := grid_cells hrx4
    have zX := lt_of_block hrx4
    have hlo9 : ∀ g, ob A9 = some g → w1.heap.size ≤ g ∧ g < wc.heap.size := fun g e => HO9.out.base_ g ((ob_ ..).trans e)
    have HL9 := Lib.hid hlo9
    have ks := spoil_int A9 l.length l.length c9 w1.heap.size l 0 w4 own4 hc9
    have KS := Lib.hid ks
    clear KN sv4 hb4 hrx4 own4 hlo9 ks HRX HO9
    go_wp2_with fail
    refine KS.out.mono ?_
    rintro e w5 ⟨rfl, hgr⟩
    have hof5 : Off (fun x => (Value.slice A9 l.length c9).ownBlock = some x) w4 w5 := Off.grown hgr
    have hno : ∀ x, SB Z4 A4 (fun _ _ => False) x → ¬ (Value.slice A9 l.length c9).ownBlock = some x := fun x hx e => by
      have h1 := (HL9.out x ((ob_ ..).symm.trans e)).2
      have h2 := (SV4.out.sb hx).1
      omega
    have sv5 := SV4.out.off hof5 (hno _ (.inl rfl)) (fun x e => hno x (.inr (.inl e))) (fun i hi x hd => hd.elim)
    have SV5 := Lib.hid sv5
    have B5 := Lib.hid (B4.out.trans (hof5.below (b := w.heap.size + 1) (HK.out _ B4.out).2.2.2 (fun g e => by have := (HL9.out g ((ob_ ..).symm.trans e)).1; omega)))
    have hl64 := size_bd HGG.out
    obtain ⟨z0, z1, z2, _, _, zp⟩ := sv5.zs
    have kg := Serve.ground_any Z4 W H A4 c4 l w5 sv5.cells.sl.2 sv5.nil_ (by omega) z0 z1 z2 zp
    have KG := Lib.hid kg
    have hfld : ∀ (a : Option Addr) (m : Nat) (u : World), (Instr.field 24 (.agg #[.int .i64 W, .int .i64 H, .slice a l.length m]) 2).run Try.prog u = .ok (.slice a l.length m) u := fun a m u => by kernel_rfl
    clear kg sv5 hof5 hno hgr KS SV4 B4 z0 z1 z2 zp HL9 x0 x1 x2 zX
    go_wp2_with fail
    refine KG.out.mono ?_
    rintro e w6 ⟨A6, c6, rfl, own6, hb6⟩
    have SV6 := Lib.hid (SV5.out.keep hb6)
    have B6 := Lib.hid (B5.out.trans (hb6.mono (HK.out _ B5.out).2.2.2))
    have h56 := (HK.out _ B5.out).2.2.2
    have hs6 := hb6.size
    have ks := spoil_int A6 l.length l.length c6 w5.heap.size l 0 w6 own6 (own_nil_ own6).2
    have KS := Lib.hid ks
    have HL6 : Hid (∀ g, (Value.slice A6 l.length c6).ownBlock = some g → w5.heap.size ≤ g) := Lib.hid (fun g e => (own6.base_ g e).1)
    clear ks own6 hb6 KG
    go_wp2_with fail
    refine KS.out.mono ?_
    rintro e w7 ⟨rfl, hgr⟩
    have hof7 := Off.grown hgr
    have hno : ∀ x, SB Z4 A4 (fun _ _ => False) x → ¬ (Value.slice A6 l.length c6).ownBlock = some x := fun x hx e => by
      have h1 := HL6.out x e
      have h2 := (SV5.out.sb hx).2
      omega
    have SV7 := Lib.hid (SV6.out.off hof7 (hno _ (.inl rfl)) (fun x e => hno x (.inr (.inl e))) (fun i hi x hd => hd.elim))
    have B7 := Lib.hid (B6.out.trans (hof7.below (b := w.heap.size + 1) (HK.out _ B6.out).2.2.2 (fun g e => by have := HL6.out g e; omega)))
    have hsw := (HWS.out.keep (HK.out _ B7.out).2.2.1 (Nat.le_refl _)).more (HK.out _ B7.out).2.2.1.size
    have kc := KCR.out w7 hsw
    have KC := Lib.hid kc
    clear hof7 hno hgr KS SV5 SV6 B5 B6 HL6 kc hsw h56 hs6
    go_wp2_with fail
    refine KC.out.mono ?_
    rintro e w8 ⟨A8, c8, rfl, own8, hb8⟩
    have SV8 := Lib.hid (SV7.out.keep hb8)
    have B8 := Lib.hid (B7.out.trans (hb8.mono (HK.out _ B7.out).2.2.2))
    have OW8 := Lib.hid own8
    have HN8 : Hid (∀ x, SB Z4 A4 (fun _ _ => False) x → x < w7.heap.size) := Lib.hid (fun x hx => (SV7.out.sb hx).2)
    clear hb8 KC SV7 B7
    by_cases hx : ncode l.length f t (allM W H l l.length) (zs l.length) ws = 0
    · obtain ⟨hx0, hy0⟩ := ncode_zero.1 hx
      obtain ⟨⟨f0, f1⟩, t0, t1⟩ := ask_in hx0
      obtain ⟨fn, rfl⟩ := Int.eq_ofNat_of_zero_le f0
      obtain ⟨tn, rfl⟩ := Int.eq_ofNat_of_zero_le t0
      have hfl0 : fn < l.length := by omega
      have htl0 : tn < l.length := by omega
      have ka := ask_yes SV8.out fn tn A8 c8 ws OW8.out.sl.2 (own_nil_ own8).1 hwl hfl0 htl0 hy0 0 (by decide) (fun _ => rfl) (fun j hj => by omega)
      have KA := Lib.hid ka
      clear ka own8 hx hx0 hy0 f0 f1 t0 t1
      go_wp2_with fail
      refine KA.out.mono ?_
      rintro e w9 (⟨h6, _⟩ | ⟨_, g, Dg, rfl, sv9, ho9, g1, g2, g3, g4, g5, gd⟩)
      · cases h6
      have SV9 := Lib.hid sv9
      have own9 := own_off OW8.out ho9 (fun x e e2 => by have h1 := HN8.out Z4 (.inl rfl); have h2 := (OW8.out.base_ x ((ob_ ..).trans e)).1; omega)
      have hc89 := own_nil_ own9
      have B9 := Lib.hid (B8.out.trans ((SV8.out.loZ ho9).mono Z3))
      have hno : ∀ x, SB Z4 A4 (upd1 (fun _ _ => False) 0 Dg) x → ¬ (Value.slice A8 ws.length c8).ownBlock = some x := fun x hx e => by
        have h1 := OW8.out.base_ x e
        rcases hx with e2 | e2 | hd
        · have := HN8.out x (.inl e2); omega
        · have := HN8.out x (.inr (.inl e2)); omega
        · rcases ds_upd gd x hd with ⟨_, _, h⟩ | h
          · exact h
          · omega
      have ks := spoil_ratio A8 ws.length ws.length c8 w7.heap.size ws w9 own9 hc89.2
      have KS := Lib.hid ks
      have HNO := Lib.hid hno
      have HG := Lib.hid (And.intro g1 (And.intro g2 (And.intro g3 (And.intro g4 g5))))
      have HL8 : Hid (∀ g, (Value.slice A8 ws.length c8).ownBlock = some g → w7.heap.size ≤ g) := Lib.hid (fun g e => (OW8.out.base_ g e).1)
      have h7 : w.heap.size + 1 ≤ w7.heap.size := by have h1 := HN8.out Z4 (.inl rfl); have h2 := SV8.out.zl; omega
      clear KA ks sv9 ho9 own9 hc89 hno g1 g2 g3 g4 g5 gd SV8 OW8 B8 HN8
      go_wp2_with fail
      refine KS.out.mono ?_
      rintro e w10 ⟨rfl, hgr⟩
      have hof10 := Off.grown hgr
      have sv10 := SV9.out.off hof10 (HNO.out _ (.inl rfl)) (fun x e => HNO.out x (.inr (.inl e))) (fun i hi x hd => HNO.out x (.inr (.inr ⟨i, hi, hd⟩)))
      have B10 := Lib.hid (B9.out.trans (hof10.below (b := w.heap.size + 1) (HK.out _ B9.out).2.2.2 (fun g e => by have := HL8.out g e; omega)))
      have kf := frame_over sv10
      have KF := Lib.hid kf
      have SV10 := Lib.hid sv10
      clear hof10 hgr kf sv10 KS SV9 B9 HNO HL8 h7
      go_wp2_with fail
      refine KF.out.mono ?_
      rintro e w11 ⟨u11, t11, σ11, D11, rfl, sv11, wt11, ov11, of11, _⟩
      obtain ⟨Y11, s11, k11, hg11⟩ := wt11.get (upd1_eq (fun _ => none) 0 (some g))
      have hov : s11.rds.length = g.F.ws.length := ov11 0 (by decide) _ hg11
      have hsl := sv11.slot 0 (by decide) _ hg11
      obtain ⟨R0, r, hr⟩ := hsl.last_ hov
      obtain ⟨hwt, hok, hr64⟩ := hsl.wt_ hr
      have hr' : s11.rds = R0 ++ [r] := hr
      have hwt' : ws[R0.length]? = some (r.num, r.den) := by rw [← HG.out.2.2.1]; exact hwt
      have hlen : R0.length + 1 = ws.length := by
        rw [hr'] at hov
        rw [← HG.out.2.2.1, ← hov]
        simp
      have kp : Calls Try.prog 14 #[.pointer (some ⟨Z4, 0, none⟩), .int .i64 0] w11 fun e w' => AnsSays 4 r w11 e w' := by
        have := poll_good sv11 (i := 0) (by decide) hg11 hr
        rw [if_pos hov] at this
        exact this
      have KP := Lib.hid kp
      have SV11 := Lib.hid sv11
      have B11 := Lib.hid (B10.out.trans ((SV10.out.lo of11).mono Z3))
      have HG11 := Lib.hid (And.intro hg11 (And.intro hr' hov))
      have HWT := Lib.hid (And.intro hwt' hlen)
      clear kp sv11 wt11 ov11 of11 hg11 hov hsl hr hwt hok hr' hwt' hlen KF SV10 B10
      go_wp2_with fail
      refine KP.out.mono ?_
      rintro e w12 ⟨A12, c12, rfl, own12, hb12⟩
      have h1213 : Below w12.heap.size w12 (w12.alloc (.cells #[.int .i64 4, .int .i64 r.num, .int .i64 r.den, .slice A12 r.path.length c12, .int .i64 r.cost, .int .i64 r.done] 45)) := (Below.refl _ _).alloc (Nat.le_refl _) _
      have OW13 := Lib.hid (own12.keep h1213)
      have SV13 := Lib.hid ((SV11.out.keep hb12).keep h1213)
      have B13 := Lib.hid (B11.out.trans ((hb12.trans (h1213.mono hb12.size)).mono (HK.out _ B11.out).2.2.2))
      have hbx := heap_alloc_new w12 (.cells #[.int .i64 4, .int .i64 r.num, .int .i64 r.den, .slice A12 r.path.length c12, .int .i64 r.cost, .int .i64 r.done] 45)
      have HSB : Hid (∀ x, SB Z4 A4 D11 x → x < w11.heap.size) := Lib.hid (fun x hx => (SV11.out.sb hx).2)
      have h11 := (HK.out _ B11.out).2.2.2
      clear own12 hb12 h1213 KP SV11 B11
      go_upto_region 15 with fail
      generalize w12.alloc (.cells #[.int .i64 4, .int .i64 r.num, .int .i64 r.den, .slice A12 r.path.length c12, .int .i64 r.cost, .int .i64 r.done] 45) = w13 at OW13 SV13 B13 hbx ⊢
      generalize w12.heap.size = XA at hbx ⊢
      have q3 := blk_cell hbx 3
      have q4 := blk_cell hbx 4
      have zq := lt_of_block hbx
      simp only [List.getElem?_toArray, List.getElem?_cons_zero, List.getElem?_cons_succ] at q3 q4
      have ks := spoil_int A12 r.path.length r.path.length c12 w11.heap.size r.path 99 w13 OW13.out (own_nil_ OW13.out).2
      have KS := Lib.hid ks
      clear ks hbx
      go_wp2_with fail
      refine KS.out.mono ?_
      rintro e w14 ⟨rfl, hgr⟩
      have hof14 := Off.grown hgr
      have hno : ∀ x, SB Z4 A4 D11 x → ¬ (Value.slice A12 r.path.length c12).ownBlock = some x := fun x hx e => by
        have h1 := (OW13.out.base_ x e).1
        have h2 := HSB.out x hx
        omega
      have sv14 := SV13.out.off hof14 (hno _ (.inl rfl)) (fun x e => hno x (.inr (.inl e))) (fun i hi x hd => hno x (.inr (.inr ⟨i, hi, hd⟩)))
      have B14 := Lib.hid (B13.out.trans (hof14.below (b := w.heap.size + 1) (HK.out _ B13.out).2.2.2 (fun g e => by have := (OW13.out.base_ g e).1; omega)))
      have kp : Calls Try.prog 14 #[.pointer (some ⟨Z4, 0, none⟩), .int .i64 0] w14 fun e w' => AnsSays 4 r w14 e w' := by
        have := poll_good sv14 (i := 0) (by decide) HG11.out.1 HG11.out.2.1
        rw [if_pos HG11.out.2.2] at this
        exact this
      have KP := Lib.hid kp
      have SV14 := Lib.hid sv14
      clear hof14 hno hgr kp sv14 KS SV13 B13 OW13 q3 q4 zq HSB h11
      go_wp2_with fail
      refine KP.out.mono ?_
      rintro e w15 ⟨A15, c15, rfl, own15, hb15⟩
      have h1516 : Below w15.heap.size w15 (w15.alloc (.cells #[.int .i64 4, .int .i64 r.num, .int .i64 r.den, .slice A15 r.path.length c15, .int .i64 r.cost, .int .i64 r.done] 45)) := (Below.refl _ _).alloc (Nat.le_refl _) _
      have SV16 := Lib.hid ((SV14.out.keep hb15).keep h1516)
      have B16 := Lib.hid (B14.out.trans ((hb15.trans (h1516.mono hb15.size)).mono (HK.out _ B14.out).2.2.2))
      have hbx := heap_alloc_new w15 (.cells #[.int .i64 4, .int .i64 r.num, .int .i64 r.den, .slice A15 r.path.length c15, .int .i64 r.cost, .int .i64 r.done] 45)
      clear own15 hb15 h1516 KP SV14 B14
      go_upto_region 18 with fail
      generalize w15.alloc (.cells #[.int .i64 4, .int .i64 r.num, .int .i64 r.den, .slice A15 r.path.length c15, .int .i64 r.cost, .int .i64 r.done] 45) = w16 at SV16 B16 hbx ⊢
      generalize w15.heap.size = XB at hbx ⊢
      obtain ⟨hwt, hlen⟩ := HWT.out
      obtain ⟨⟨b0, b1, b2⟩, _, HL, HZ⟩ := HK.out _ B16.out
      obtain ⟨bw, ow, x, y, hAw, hbw, hxy, hcx, hcy⟩ := sl_pair ((HWS.out.keep HL (Nat.le_refl _)).more HL.size) (k := R0.length) (by omega)
      rw [List.getElem?_eq_getElem (by omega), hxy] at hwt
      injection hwt with hwt
      injection hwt with h1 h2
      subst h1 h2
      subst hAw
      have p1 := blk_cell hbx 1
      have p2 := blk_cell hbx 2
      have p4 := blk_cell hbx 4
      have zp := lt_of_block hbx
      simp only [List.getElem?_toArray, List.getElem?_cons_zero, List.getElem?_cons_succ] at p1 p2 p4
      have hcl : ∀ W', Below w16.heap.size w16 W' → W'.cell? ⟨w.heap.size, 0, none⟩ = some (.int .i64 W) ∧ W'.cell? ⟨w.heap.size, 1, none⟩ = some (.int .i64 H) ∧ W'.cell? ⟨w.heap.size, 2, none⟩ = some (.slice A l.length c) ∧ W'.cell? ⟨XB, 1, none⟩ = some (.int .i64 r.num) ∧ W'.cell? ⟨XB, 2, none⟩ = some (.int .i64 r.den) ∧ W'.cell? ⟨XB, 4, none⟩ = some (.int .i64 r.cost) ∧ W'.cell? ⟨bw, ow + R0.length * 2, none⟩ = some (.int .i64 r.num) ∧ W'.cell? ⟨bw, ow + R0.length * 2 + 1, none⟩ = some (.int .i64 r.den) := fun W' hW => ⟨(hW.cell (p := ⟨w.heap.size, 0, none⟩) HZ).trans b0, (hW.cell (p := ⟨w.heap.size, 1, none⟩) HZ).trans b1, (hW.cell (p := ⟨w.heap.size, 2, none⟩) HZ).trans b2, (hW.cell (p := ⟨XB, 1, none⟩) zp).trans p1, (hW.cell (p := ⟨XB, 2, none⟩) zp).trans p2, (hW.cell (p := ⟨XB, 4, none⟩) zp).trans p4, (hW.cell (p := ⟨bw, ow + R0.length * 2, none⟩) hbw).trans hcx, (hW.cell (p := ⟨bw, ow + R0.length * 2 + 1, none⟩) hbw).trans hcy⟩
      have HCL := Lib.hid hcl
      have kgd : ∀ W', Below w16.heap.size w16 W' → Calls Try.prog 22 #[.pointer (some ⟨Z4, 0, none⟩), .int .i64 0, .int .i64 fn, .int .i64 tn] W' fun e w' => e = .returned (.bool true) ∧ Below W'.heap.size W' w' := fun W' hW => by
        have := ServeG.good_any (SV16.out.keep hW) (i := 0) (by decide) HG11.out.1
        dsimp only at this
        rw [HG.out.1, HG.out.2.1] at this
        exact this
      have KGD := Lib.hid kgd
      have hn2 : (0 < (R0.length : Int) + 1) = True := eq_true (by omega)
      have hn4 : IntKind.i64.wrap ((R0.length : Int) + 1 - 1) = R0.length := by rw [IntWalk.i64_in _ (by omega)]; omega
      have hn5 : IntKind.i64.wrap (R0.length : Int) = R0.length := IntWalk.i64_in _ (by omega)
      have hn6 : (R0.length : Int) < (R0.length : Int) + 1 := by omega
      clear hxy
      generalize ws.length = mw at hlen ⊢
      subst hlen
      clear hcl kgd hcx hcy hbw p1 p2 p4 zp hbx b0 b1 b2 HL
      have HZ16 := HZ
      refine Go.wp_region_held_drew (S := (fun w' => w'.cell? ⟨w.heap.size, 0, none⟩ = some (.int .i64 W) ∧ w'.cell? ⟨w.heap.size, 1, none⟩ = some (.int .i64 H) ∧ w'.cell? ⟨w.heap.size, 2, none⟩ = some (.slice A l.length c) ∧ w'.cell? ⟨XB, 1, none⟩ = some (.int .i64 r.num) ∧ w'.cell? ⟨XB, 2, none⟩ = some (.int .i64 r.den) ∧ w'.cell? ⟨XB, 4, none⟩ = some (.int .i64 r.cost) ∧ w'.cell? ⟨bw, ow + R0.length * 2, none⟩ = some (.int .i64 r.num) ∧ w'.cell? ⟨bw, ow + R0.length * 2 + 1, none⟩ = some (.int .i64 r.den))) (by kernel_rfl) (HCL.out _ (Below.refl _ _).drew) (fun hHeld => ?_)
      refine Go.wpAnyH_take (fuel := 44) (i := 0) (oi := _) (v := ?_) rfl (by kernel_rfl) (by kernel_rfl) (by kernel_rfl) (fun _ _ _ h => h) (Or.inl ⟨by rfl, ?_⟩) (by first | exact hHeld | assumption) ?_
      rotate_left
      · (intro w hSw; (try dsimp only at hSw); (try unfold SN at hSw); go_simp)
        try with_reducible rfl
      try simp only [Act.put, List.getElem_toArray, List.getElem_cons_succ, List.getElem_cons_zero, List.setIfInBounds_toArray, List.set_cons_zero, List.set_cons_succ]
      refine Go.wpAnyH_take (fuel := 43) (i := 1) (oi := _) (v := ?_) rfl (by kernel_rfl) (by kernel_rfl) (by kernel_rfl) (fun _ _ _ h => h) (Or.inl ⟨by rfl, ?_⟩) (by first | exact hHeld | assumption) ?_
      rotate_left
      · (intro w hSw; (try dsimp only at hSw); (try unfold SN at hSw); go_simp)
        try with_reducible rfl
      try simp only [Act.put, List.getElem_toArray, List.getElem_cons_succ, List.getElem_cons_zero, List.setIfInBounds_toArray, List.set_cons_zero, List.set_cons_succ]
      refine Go.wpAnyH_take (fuel := 42) (i := 2) (oi := _) (v := ?_) rfl (by kernel_rfl) (by kernel_rfl) (by kernel_rfl) (fun _ _ _ h => h) (Or.inl ⟨by rfl, ?_⟩) (by first | exact hHeld | assumption) ?_
      rotate_left
      · (intro w hSw; (try dsimp only at hSw); (try unfold SN at hSw); go_simp)
        try with_reducible rfl
      try simp only [Act.put, List.getElem_toArray, List.getElem_cons_succ, List.getElem_cons_zero, List.setIfInBounds_toArray, List.set_cons_zero, List.set_cons_succ]
      refine Go.wpAnyH_take (fuel := 41) (i := 3) (oi := _) (v := ?_) rfl (by kernel_rfl) (by kernel_rfl) (by kernel_rfl) (fun _ _ _ h => h) (Or.inl ⟨by rfl, ?_⟩) (by first | exact hHeld | assumption) ?_
      rotate_left
      · (intro w hSw; (try dsimp only at hSw); (try unfold SN at hSw); go_simp)
        try with_reducible rfl
      try simp only [Act.put, List.getElem_toArray, List.getElem_cons_succ, List.getElem_cons_zero, List.setIfInBounds_toArray, List.set_cons_zero, List.set_cons_succ]
      refine Go.wpAnyH_take (fuel := 40) (i := 4) (oi := _) (v := ?_) rfl (by kernel_rfl) (by kernel_rfl) (by kernel_rfl) (fun _ _ _ h => h) (Or.inl ⟨by rfl, ?_⟩) (by first | exact hHeld | assumption) ?_
      rotate_left
      · (intro w hSw; (try dsimp only at hSw); (try unfold SN at hSw); go_simp)
        try with_reducible rfl
      try simp only [Act.put, List.getElem_toArray, List.getElem_cons_succ, List.getElem_cons_zero, List.setIfInBounds_toArray, List.set_cons_zero, List.set_cons_succ]
      refine Go.wpAnyH_take (fuel := 39) (i := 5) (oi := _) (v := ?_) rfl (by kernel_rfl) (by kernel_rfl) (by kernel_rfl) (fun _ _ _ h => h) (Or.inl ⟨by rfl, ?_⟩) (by first | exact hHeld | assumption) ?_
      rotate_left
      · (intro w hSw; (try dsimp only at hSw); (try unfold SN at hSw); go_simp)
        try with_reducible rfl
      try simp only [Act.put, List.getElem_toArray, List.getElem_cons_succ, List.getElem_cons_zero, List.setIfInBounds_toArray, List.set_cons_zero, List.set_cons_succ]
      refine Go.wpAnyH_take (fuel := 38) (i := 6) (oi := _) (v := ?_) rfl (by kernel_rfl) (by kernel_rfl) (by kernel_rfl) (fun _ _ _ h => h) (Or.inl ⟨by rfl, ?_⟩) (by first | exact hHeld | assumption) ?_
      rotate_left
      · (intro w hSw; (try dsimp only at hSw); (try unfold SN at hSw); go_simp)
        try with_reducible rfl
      try simp only [Act.put, List.getElem_toArray, List.getElem_cons_succ, List.getElem_cons_zero, List.setIfInBounds_toArray, List.set_cons_zero, List.set_cons_succ]
      refine Go.wpAnyH_take (fuel := 37) (i := 7) (oi := _) (v := ?_) rfl (by kernel_rfl) (by kernel_rfl) (by kernel_rfl) (fun _ _ _ h => h) (Or.inl ⟨by rfl, ?_⟩) (by first | exact hHeld | assumption) ?_
      rotate_left
      · (intro w hSw; (try dsimp only at hSw); (try unfold SN at hSw); go_simp)
        try with_reducible rfl
      try simp only [Act.put, List.getElem_toArray, List.getElem_cons_succ, List.getElem_cons_zero, List.setIfInBounds_toArray, List.set_cons_zero, List.set_cons_succ]
      refine Go.wpAnyH_take (fuel := 36) (i := 9) (oi := _) (v := ?_) rfl (by kernel_rfl) (by kernel_rfl) (by kernel_rfl) (fun _ _ _ h => h) (Or.inl ⟨by rfl, ?_⟩) (by first | exact hHeld | assumption) ?_
      rotate_left
      · (intro w hSw; (try dsimp only at hSw); (try unfold SN at hSw); go_simp)
        try with_reducible rfl
      try simp only [Act.put, List.getElem_toArray, List.getElem_cons_succ, List.getElem_cons_zero, List.setIfInBounds_toArray, List.set_cons_zero, List.set_cons_succ]
      refine Go.wpAnyH_ready (fuel := 35) (rs := [8]) (by kernel_rfl) (by simp) ?_
      refine Go.AllReadyH.cons (o := _) rfl (fun K hK => ?_) Go.AllReadyH.nil
      have HKX := Lib.hid hK
      clear hK
      go_simp
      go_at_call 24
      have sva := SV16.out.keepD
      obtain ⟨z0, z1, z2, _, _, zp⟩ := sva.zs
      have kg := Serve.ground_any Z4 W H A4 c4 l w16.drew sva.cells.sl.2 sva.nil_ (by omega) z0 z1 z2 zp
      refine Calls.mono kg ?_
      rintro e wa ⟨Aa, ca, rfl, owna, hba⟩
      have OWA := Lib.hid owna
      have HBA := Lib.hid (((Below.refl w16.heap.size w16).drew).trans hba)
      clear z0 z1 z2 zp sva kg owna hba
      have s1 := HCL.out _ HBA.out
      refine HKX.out.out _ _ s1 (fun hHeld => ?_)
      clear HKX
      try simp only [Act.put, List.getElem_toArray, List.getElem_cons_succ, List.getElem_cons_zero, List.setIfInBounds_toArray, List.set_cons_zero, List.set_cons_succ]
      refine Go.wpAnyH_ready (fuel := 34) (rs := [10]) (by kernel_rfl) (by simp) ?_
      refine Go.AllReadyH.cons (o := _) rfl (fun K hK => ?_) Go.AllReadyH.nil
      have HKX := Lib.hid hK
      clear hK
      go_simp
      go_at_call 25
      have ksg := same_cells W H Aa A ca c l l true (by simp) wa OWA.out.sl.2 (HK.out _ (B16.out.trans (HBA.out.mono HZ16))).2.1 hll
      refine Calls.mono ksg ?_
      rintro e wb ⟨rfl, hbb⟩
      have HBB := Lib.hid (HBA.out.trans (hbb.mono HBA.out.size))
      clear ksg hbb
      have s2 := HCL.out _ HBB.out
      refine HKX.out.out _ _ s2 (fun hHeld => ?_)
      clear HKX
      try simp only [Act.put, List.getElem_toArray, List.getElem_cons_succ, List.getElem_cons_zero, List.setIfInBounds_toArray, List.set_cons_zero, List.set_cons_succ]
      refine Go.wpAnyH_take (fuel := 33) (i := 11) (oi := _) (v := ?_) rfl (by kernel_rfl) (by kernel_rfl) (by kernel_rfl) (fun _ _ _ h => h) (Or.inl ⟨by rfl, ?_⟩) (by first | exact hHeld | assumption) ?_
      rotate_left
      · (intro w hSw; (try dsimp only at hSw); (try unfold SN at hSw); go_simp)
        try with_reducible rfl
      try simp only [Act.put, List.getElem_toArray, List.getElem_cons_succ, List.getElem_cons_zero, List.setIfInBounds_toArray, List.set_cons_zero, List.set_cons_succ]
      refine Go.wpAnyH_take (fuel := 32) (i := 12) (oi := _) (v := ?_) rfl (by kernel_rfl) (by kernel_rfl) (by kernel_rfl) (fun _ _ _ h => h) (Or.inl ⟨by rfl, ?_⟩) (by first | exact hHeld | assumption) ?_
      rotate_left
      · (intro w hSw; (try dsimp only at hSw); (try unfold SN at hSw); go_simp)
        try with_reducible rfl
      try simp only [Act.put, List.getElem_toArray, List.getElem_cons_succ, List.getElem_cons_zero, List.setIfInBounds_toArray, List.set_cons_zero, List.set_cons_succ]
      refine Go.wpAnyH_take (fuel := 31) (i := 13) (oi := _) (v := ?_) rfl (by kernel_rfl) (by kernel_rfl) (by kernel_rfl) (fun _ _ _ h => h) (Or.inl ⟨by rfl, ?_⟩) (by first | exact hHeld | assumption) ?_
      rotate_left
      · (intro w hSw; (try dsimp only at hSw); (try unfold SN at hSw); go_simp)
        try with_reducible rfl
      try simp only [Act.put, List.getElem_toArray, List.getElem_cons_succ, List.getElem_cons_zero, List.setIfInBounds_toArray, List.set_cons_zero, List.set_cons_succ]
      refine Go.wpAnyH_take (fuel := 30) (i := 14) (oi := _) (v := ?_) rfl (by kernel_rfl) (by kernel_rfl) (by kernel_rfl) (fun _ _ _ h => h) (Or.inl ⟨by rfl, ?_⟩) (by first | exact hHeld | assumption) ?_
      rotate_left
      · (intro w hSw; (try dsimp only at hSw); (try unfold SN at hSw); go_simp)
        try with_reducible rfl
      try simp only [Act.put, List.getElem_toArray, List.getElem_cons_succ, List.getElem_cons_zero, List.setIfInBounds_toArray, List.set_cons_zero, List.set_cons_succ]
      refine Go.wpAnyH_take (fuel := 29) (i := 15) (oi := _) (v := ?_) rfl (by kernel_rfl) (by kernel_rfl) (by kernel_rfl) (fun _ _ _ h => h) (Or.inl ⟨by rfl, ?_⟩) (by first | exact hHeld | assumption) ?_
      rotate_left
      · (intro w hSw; (try dsimp only at hSw); (try unfold SN at hSw); go_simp)
        try with_reducible rfl
      try simp only [Act.put, List.getElem_toArray, List.getElem_cons_succ, List.getElem_cons_zero, List.setIfInBounds_toArray, List.set_cons_zero, List.set_cons_succ]
      refine Go.wpAnyH_take (fuel := 28) (i := 16) (oi := _) (v := ?_) rfl (by kernel_rfl) (by kernel_rfl) (by kernel_rfl) (fun _ _ _ h => h) (Or.inl ⟨by rfl, ?_⟩) (by first | exact hHeld | assumption) ?_
      rotate_left
      · (intro w hSw; (try dsimp only at hSw); (try unfold SN at hSw); go_simp)
        try with_reducible rfl
      try simp only [Act.put, List.getElem_toArray, List.getElem_cons_succ, List.getElem_cons_zero, List.setIfInBounds_toArray, List.set_cons_zero, List.set_cons_succ]
      refine Go.wpAnyH_take (fuel := 27) (i := 17) (oi := _) (v := ?_) rfl (by kernel_rfl) (by kernel_rfl) (by kernel_rfl) (fun _ _ _ h => h) (Or.inl ⟨by rfl, ?_⟩) (by first | exact hHeld | assumption) ?_
      rotate_left
      · (intro w hSw; (try dsimp only at hSw); (try unfold SN at hSw); go_simp)
        try with_reducible rfl
      try simp only [Act.put, List.getElem_toArray, List.getElem_cons_succ, List.getElem_cons_zero, List.setIfInBounds_toArray, List.set_cons_zero, List.set_cons_succ]
      refine Go.wpAnyH_take (fuel := 26) (i := 18) (oi := _) (v := ?_) rfl (by kernel_rfl) (by kernel_rfl) (by kernel_rfl) (fun _ _ _ h => h) (Or.inl ⟨by rfl, ?_⟩) (by first | exact hHeld | assumption) ?_
      rotate_left
      · (intro w hSw; (try dsimp only at hSw); (try unfold SN at hSw); go_simp)
        try with_reducible rfl
      try simp only [Act.put, List.getElem_toArray, List.getElem_cons_succ, List.getElem_cons_zero, List.setIfInBounds_toArray, List.set_cons_zero, List.set_cons_succ]
      refine Go.wpAnyH_take (fuel := 25) (i := 19) (oi := _) (v := ?_) rfl (by kernel_rfl) (by kernel_rfl) (by kernel_rfl) (fun _ _ _ h => h) (Or.inl ⟨by rfl, ?_⟩) (by first | exact hHeld | assumption) ?_
      rotate_left
      · (intro w hSw; (try dsimp only at hSw); (try unfold SN at hSw); go_simp)
        try with_reducible rfl
      try simp only [Act.put, List.getElem_toArray, List.getElem_cons_succ, List.getElem_cons_zero, List.setIfInBounds_toArray, List.set_cons_zero, List.set_cons_succ]
      refine Go.wpAnyH_take (fuel := 24) (i := 20) (oi := _) (v := ?_) rfl (by kernel_rfl) (by kernel_rfl) (by kernel_rfl) (fun _ _ _ h => h) (Or.inl ⟨by rfl, ?_⟩) (by first | exact hHeld | assumption) ?_
      rotate_left
      · (intro w hSw; (try dsimp only at hSw); (try unfold SN at hSw); go_simp)
        try with_reducible rfl
      try simp only [Act.put, List.getElem_toArray, List.getElem_cons_succ, List.getElem_cons_zero, List.setIfInBounds_toArray, List.set_cons_zero, List.set_cons_succ]
      refine Go.wpAnyH_take (fuel := 23) (i := 21) (oi := _) (v := ?_) rfl (by kernel_rfl) (by kernel_rfl) (by kernel_rfl) (fun _ _ _ h => h) (Or.inl ⟨by rfl, ?_⟩) (by first | exact hHeld | assumption) ?_
      rotate_left
      · (intro w hSw; (try dsimp only at hSw); (try unfold SN at hSw); go_simp)
        try with_reducible rfl
      try simp only [Act.put, List.getElem_toArray, List.getElem_cons_succ, List.getElem_cons_zero, List.setIfInBounds_toArray, List.set_cons_zero, List.set_cons_succ]
      refine Go.wpAnyH_take (fuel := 22) (i := 22) (oi := _) (v := ?_) rfl (by kernel_rfl) (by kernel_rfl) (by kernel_rfl) (fun _ _ _ h => h) (Or.inl ⟨by rfl, ?_⟩) (by first | exact hHeld | assumption) ?_
      rotate_left
      · (intro w hSw; (try dsimp only at hSw); (try unfold SN at hSw); go_simp)
        try with_reducible rfl
      try simp only [Act.put, List.getElem_toArray, List.getElem_cons_succ, List.getElem_cons_zero, List.setIfInBounds_toArray, List.set_cons_zero, List.set_cons_succ]
      refine Go.wpAnyH_take (fuel := 21) (i := 23) (oi := _) (v := ?_) rfl (by kernel_rfl) (by kernel_rfl) (by kernel_rfl) (fun _ _ _ h => h) (Or.inl ⟨by rfl, ?_⟩) (by first | exact hHeld | assumption) ?_
      rotate_left
      · (intro w hSw; (try dsimp only at hSw); (try unfold SN at hSw); go_simp)
        try with_reducible rfl
      try simp only [Act.put, List.getElem_toArray, List.getElem_cons_succ, List.getElem_cons_zero, List.setIfInBounds_toArray, List.set_cons_zero, List.set_cons_succ]
      refine Go.wpAnyH_take (fuel := 20) (i := 24) (oi := _) (v := ?_) rfl (by kernel_rfl) (by kernel_rfl) (by kernel_rfl) (fun _ _ _ h => h) (Or.inl ⟨by rfl, ?_⟩) (by first | exact hHeld | assumption) ?_
      rotate_left
      · (intro w hSw; (try dsimp only at hSw); (try unfold SN at hSw); go_simp)
        try with_reducible rfl
      try simp only [Act.put, List.getElem_toArray, List.getElem_cons_succ, List.getElem_cons_zero, List.setIfInBounds_toArray, List.set_cons_zero, List.set_cons_succ]
      refine Go.wpAnyH_ready (fuel := 19) (rs := [25]) (by kernel_rfl) (by simp) ?_
      refine Go.AllReadyH.cons (o := _) rfl (fun K hK => ?_) Go.AllReadyH.nil
      have HKX := Lib.hid hK
      clear hK
      go_simp
      go_at_call 22
      refine (KGD.out _ HBB.out).mono ?_
      rintro e wd ⟨rfl, hbd⟩
      have HBD := Lib.hid (HBB.out.trans (hbd.mono HBB.out.size))
      clear hbd
      have s3 := HCL.out _ HBD.out
      refine HKX.out.out _ _ s3 (fun hHeld => ?_)
      clear HKX
      try simp only [Act.put, List.getElem_toArray, List.getElem_cons_succ, List.getElem_cons_zero, List.setIfInBounds_toArray, List.set_cons_zero, List.set_cons_succ]
      refine Go.wpAnyH_take (fuel := 18) (i := 26) (oi := _) (v := ?_) rfl (by kernel_rfl) (by kernel_rfl) (by kernel_rfl) (fun _ _ _ h => h) (Or.inl ⟨by rfl, ?_⟩) (by first | exact hHeld | assumption) ?_
      rotate_left
      · (intro w hSw; (try dsimp only at hSw); (try unfold SN at hSw); go_simp)
        try with_reducible rfl
      try simp only [Act.put, List.getElem_toArray, List.getElem_cons_succ, List.getElem_cons_zero, List.setIfInBounds_toArray, List.set_cons_zero, List.set_cons_succ]
      refine Go.wpAnyH_take (fuel := 17) (i := 27) (oi := _) (v := ?_) rfl (by kernel_rfl) (by kernel_rfl) (by kernel_rfl) (fun _ _ _ h => h) (Or.inl ⟨by rfl, ?_⟩) (by first | exact hHeld | assumption) ?_
      rotate_left
      · (intro w hSw; (try dsimp only at hSw); (try unfold SN at hSw); go_simp)
        try with_reducible rfl
      try simp only [Act.put, List.getElem_toArray, List.getElem_cons_succ, List.getElem_cons_zero, List.setIfInBounds_toArray, List.set_cons_zero, List.set_cons_succ]
      refine Go.wpAnyH_take (fuel := 16) (i := 28) (oi := _) (v := ?_) rfl (by kernel_rfl) (by kernel_rfl) (by kernel_rfl) (fun _ _ _ h => h) (Or.inl ⟨by rfl, ?_⟩) (by first | exact hHeld | assumption) ?_
      rotate_left
      · (intro w hSw; (try dsimp only at hSw); (try unfold SN at hSw); go_simp)
        try with_reducible rfl
      try simp only [Act.put, List.getElem_toArray, List.getElem_cons_succ, List.getElem_cons_zero, List.setIfInBounds_toArray, List.set_cons_zero, List.set_cons_succ]
      refine Go.wpAnyH_take (fuel := 15) (i := 29) (oi := _) (v := ?_) rfl (by kernel_rfl) (by kernel_rfl) (by kernel_rfl) (fun _ _ _ h => h) (Or.inl ⟨by rfl, ?_⟩) (by first | exact hHeld | assumption) ?_
      rotate_left
      · (intro w hSw; (try dsimp only at hSw); (try unfold SN at hSw); go_simp)
        try with_reducible rfl
      try simp only [Act.put, List.getElem_toArray, List.getElem_cons_succ, List.getElem_cons_zero, List.setIfInBounds_toArray, List.set_cons_zero, List.set_cons_succ]
      refine Go.wpAnyH_take (fuel := 14) (i := 30) (oi := _) (v := ?_) rfl (by kernel_rfl) (by kernel_rfl) (by kernel_rfl) (fun _ _ _ h => h) (Or.inl ⟨by rfl, ?_⟩) (by first | exact hHeld | assumption) ?_
      rotate_left
      · (intro w hSw; (try dsimp only at hSw); (try unfold SN at hSw); go_simp)
        try with_reducible rfl
      try simp only [Act.put, List.getElem_toArray, List.getElem_cons_succ, List.getElem_cons_zero, List.setIfInBounds_toArray, List.set_cons_zero, List.set_cons_succ]
      refine Go.wpAnyH_take (fuel := 13) (i := 31) (oi := _) (v := ?_) rfl (by kernel_rfl) (by kernel_rfl) (by kernel_rfl) (fun _ _ _ h => h) (Or.inl ⟨by rfl, ?_⟩) (by first | exact hHeld | assumption) ?_
      rotate_left
      · (intro w hSw; (try dsimp only at hSw); (try unfold SN at hSw); go_simp)
        try with_reducible rfl
      try simp only [Act.put, List.getElem_toArray, List.getElem_cons_succ, List.getElem_cons_zero, List.setIfInBounds_toArray, List.set_cons_zero, List.set_cons_succ]
      refine Go.wpAnyH_take (fuel := 12) (i := 32) (oi := _) (v := ?_) rfl (by kernel_rfl) (by kernel_rfl) (by kernel_rfl) (fun _ _ _ h => h) (Or.inl ⟨by rfl, ?_⟩) (by first | exact hHeld | assumption) ?_
      rotate_left
      · (intro w hSw; (try dsimp only at hSw); (try unfold SN at hSw); go_simp)
        try with_reducible rfl
      try simp only [Act.put, List.getElem_toArray, List.getElem_cons_succ, List.getElem_cons_zero, List.setIfInBounds_toArray, List.set_cons_zero, List.set_cons_succ]
      refine Go.wpAnyH_take (fuel := 11) (i := 33) (oi := _) (v := ?_) rfl (by kernel_rfl) (by kernel_rfl) (by kernel_rfl) (fun _ _ _ h => h) (Or.inl ⟨by rfl, ?_⟩) (by first | exact hHeld | assumption) ?_
      rotate_left
      · (intro w hSw; (try dsimp only at hSw); (try unfold SN at hSw); go_simp)
        try with_reducible rfl
      try simp only [Act.put, List.getElem_toArray, List.getElem_cons_succ, List.getElem_cons_zero, List.setIfInBounds_toArray, List.set_cons_zero, List.set_cons_succ]
      refine Go.wpAnyH_take (fuel := 10) (i := 34) (oi := _) (v := ?_) rfl (by kernel_rfl) (by kernel_rfl) (by kernel_rfl) (fun _ _ _ h => h) (Or.inl ⟨by rfl, ?_⟩) (by first | exact hHeld | assumption) ?_
      rotate_left
      · (intro w hSw; (try dsimp only at hSw); (try unfold SN at hSw); go_simp)
        try with_reducible rfl
      try simp only [Act.put, List.getElem_toArray, List.getElem_cons_succ, List.getElem_cons_zero, List.setIfInBounds_toArray, List.set_cons_zero, List.set_cons_succ]
      refine Go.wpAnyH_take (fuel := 9) (i := 35) (oi := _) (v := ?_) rfl (by kernel_rfl) (by kernel_rfl) (by kernel_rfl) (fun _ _ _ h => h) (Or.inl ⟨by rfl, ?_⟩) (by first | exact hHeld | assumption) ?_
      rotate_left
      · (intro w hSw; (try dsimp only at hSw); (try unfold SN at hSw); go_simp)
        try with_reducible rfl
      try simp only [Act.put, List.getElem_toArray, List.getElem_cons_succ, List.getElem_cons_zero, List.setIfInBounds_toArray, List.set_cons_zero, List.set_cons_succ]
      refine Go.wpAnyH_take (fuel := 8) (i := 36) (oi := _) (v := ?_) rfl (by kernel_rfl) (by kernel_rfl) (by kernel_rfl) (fun _ _ _ h => h) (Or.inl ⟨by rfl, ?_⟩) (by first | exact hHeld | assumption) ?_
      rotate_left
      · (intro w hSw; (try dsimp only at hSw); (try unfold SN at hSw); go_simp)
        try with_reducible rfl
      try simp only [Act.put, List.getElem_toArray, List.getElem_cons_succ, List.getElem_cons_zero, List.setIfInBounds_toArray, List.set_cons_zero, List.set_cons_succ]
      refine Go.wpAnyH_take (fuel := 7) (i := 37) (oi := _) (v := ?_) rfl (by kernel_rfl) (by kernel_rfl) (by kernel_rfl) (fun _ _ _ h => h) (Or.inl ⟨by rfl, ?_⟩) (by first | exact hHeld | assumption) ?_
      rotate_left
      · (intro w hSw; (try dsimp only at hSw); (try unfold SN at hSw); go_simp)
        try with_reducible rfl
      try simp only [Act.put, List.getElem_toArray, List.getElem_cons_succ, List.getElem_cons_zero, List.setIfInBounds_toArray, List.set_cons_zero, List.set_cons_succ]
      refine Go.wpAnyH_take (fuel := 6) (i := 38) (oi := _) (v := ?_) rfl (by kernel_rfl) (by kernel_rfl) (by kernel_rfl) (fun _ _ _ h => h) (Or.inl ⟨by rfl, ?_⟩) (by first | exact hHeld | assumption) ?_
      rotate_left
      · (intro w hSw; (try dsimp only at hSw); (try unfold SN at hSw); go_simp)
        try with_reducible rfl
      try simp only [Act.put, List.getElem_toArray, List.getElem_cons_succ, List.getElem_cons_zero, List.setIfInBounds_toArray, List.set_cons_zero, List.set_cons_succ]
      refine Go.wpAnyH_take (fuel := 5) (i := 39) (oi := _) (v := ?_) rfl (by kernel_rfl) (by kernel_rfl) (by kernel_rfl) (fun _ _ _ h => h) (Or.inl ⟨by rfl, ?_⟩) (by first | exact hHeld | assumption) ?_
      rotate_left
      · (intro w hSw; (try dsimp only at hSw); (try unfold SN at hSw); go_simp)
        try with_reducible rfl
      try simp only [Act.put, List.getElem_toArray, List.getElem_cons_succ, List.getElem_cons_zero, List.setIfInBounds_toArray, List.set_cons_zero, List.set_cons_succ]
      refine Go.wpAnyH_take (fuel := 4) (i := 40) (oi := _) (v := ?_) rfl (by kernel_rfl) (by kernel_rfl) (by kernel_rfl) (fun _ _ _ h => h) (Or.inl ⟨by rfl, ?_⟩) (by first | exact hHeld | assumption) ?_
      rotate_left
      · (intro w hSw; (try dsimp only at hSw); (try unfold SN at hSw); go_simp)
        try with_reducible rfl
      try simp only [Act.put, List.getElem_toArray, List.getElem_cons_succ, List.getElem_cons_zero, List.setIfInBounds_toArray, List.set_cons_zero, List.set_cons_succ]
      refine Go.wpAnyH_take (fuel := 3) (i := 41) (oi := _) (v := ?_) rfl (by kernel_rfl) (by kernel_rfl) (by kernel_rfl) (fun _ _ _ h => h) (Or.inl ⟨by rfl, ?_⟩) (by first | exact hHeld | assumption) ?_
      rotate_left
      · (intro w hSw; (try dsimp only at hSw); (try unfold SN at hSw); go_simp)
        try with_reducible rfl
      try simp only [Act.put, List.getElem_toArray, List.getElem_cons_succ, List.getElem_cons_zero, List.setIfInBounds_toArray, List.set_cons_zero, List.set_cons_succ]
      refine Go.wpAnyH_take (fuel := 2) (i := 42) (oi := _) (v := ?_) rfl (by kernel_rfl) (by kernel_rfl) (by kernel_rfl) (fun _ _ _ h => h) (Or.inl ⟨by rfl, ?_⟩) (by first | exact hHeld | assumption) ?_
      rotate_left
      · (intro w hSw; (try dsimp only at hSw); (try unfold SN at hSw); go_simp)
        try with_reducible rfl
      try simp only [Act.put, List.getElem_toArray, List.getElem_cons_succ, List.getElem_cons_zero, List.setIfInBounds_toArray, List.set_cons_zero, List.set_cons_succ]
      refine Go.wpAnyH_take (fuel := 1) (i := 43) (oi := _) (v := ?_) rfl (by kernel_rfl) (by kernel_rfl) (by kernel_rfl) (fun _ _ _ h => h) (Or.inl ⟨by rfl, ?_⟩) (by first | exact hHeld | assumption) ?_
      rotate_left
      · (intro w hSw; (try dsimp only at hSw); (try unfold SN at hSw); go_simp)
        try with_reducible rfl
      try simp only [Act.put, List.getElem_toArray, List.getElem_cons_succ, List.getElem_cons_zero, List.setIfInBounds_toArray, List.set_cons_zero, List.set_cons_succ]
      refine Go.wpAnyH_take (fuel := 0) (i := 44) (oi := _) (v := ?_) rfl (by kernel_rfl) (by kernel_rfl) (by kernel_rfl) (fun _ _ _ h => h) (Or.inl ⟨by rfl, ?_⟩) (by first | exact hHeld | assumption) ?_
      rotate_left
      · (intro w hSw; (try dsimp only at hSw); (try unfold SN at hSw); go_simp)
        try with_reducible rfl
      try simp only [Act.put, List.getElem_toArray, List.getElem_cons_succ, List.getElem_cons_zero, List.setIfInBounds_toArray, List.set_cons_zero, List.set_cons_succ]
      refine Go.wpAnyH_done (by kernel_rfl) ?_ _
      have HFIN := Lib.hid (HK.out _ (B16.out.trans (HBD.out.mono HZ16))).2.2.1
      clear s1 s2 s3 HBA HBB HBD OWA HCL KGD hHeld hn2 hn4 hn5 hn6
      go_wp2
      go_ret
      exact ⟨rfl, HFIN.out⟩
    · have ka := ask_no SV8.out f t A8 c8 ws OW8.out.sl.2 (own_nil_ own8).1 hwl hx
      have KA := Lib.hid ka
      have hcd : (ncode l.length f t (allM W H l l.length) (zs l.length) ws != 0) = true := by rw [bne_iff_ne]; exact hx
      generalize ncode l.length f t (allM W H l l.length) (zs l.length) ws = cd at *
      clear ka hx own8
      go_wp2_with fail
      refine KA.out.mono ?_
      rintro e w9 ⟨rfl, hb9⟩
      have B9 := Lib.hid (B8.out.trans (hb9.mono (HK.out _ B8.out).2.2.2))
      have SV9 := Lib.hid (SV8.out.keep hb9)
      clear KA hb9 SV8 B8 OW8 HN8
      go_upto_region 11 with fail
      refine Go.wp_region_held_drew (S := (fun w' => w'.cell? ⟨w.heap.size, 0, none⟩ = some (.int .i64 W) ∧ w'.cell? ⟨w.heap.size, 1, none⟩ = some (.int .i64 H) ∧ w'.cell? ⟨w.heap.size, 2, none⟩ = some (.slice A l.length c))) (by kernel_rfl) (HK.out _ B9.out.drew).1 (fun hHeld => ?_)
      refine Go.wpAnyH_take (fuel := 4) (i := 0) (oi := _) (v := ?_) rfl (by kernel_rfl) (by kernel_rfl) (by kernel_rfl) (fun _ _ _ h => h) (Or.inl ⟨by rfl, ?_⟩) (by first | exact hHeld | assumption) ?_
      rotate_left
      · (intro w hSw; (try dsimp only at hSw); (try unfold SN at hSw); go_simp)
        try with_reducible rfl
      try simp only [Act.put, List.getElem_toArray, List.getElem_cons_succ, List.getElem_cons_zero, List.setIfInBounds_toArray, List.set_cons_zero, List.set_cons_succ]
      refine Go.wpAnyH_take (fuel := 3) (i := 2) (oi := _) (v := ?_) rfl (by kernel_rfl) (by kernel_rfl) (by kernel_rfl) (fun _ _ _ h => h) (Or.inl ⟨by rfl, ?_⟩) (by first | exact hHeld | assumption) ?_
      rotate_left
      · (intro w hSw; (try dsimp only at hSw); (try unfold SN at hSw); go_simp)
        try with_reducible rfl
      try simp only [Act.put, List.getElem_toArray, List.getElem_cons_succ, List.getElem_cons_zero, List.setIfInBounds_toArray, List.set_cons_zero, List.set_cons_succ]
      refine Go.wpAnyH_ready (fuel := 2) (rs := [1]) (by kernel_rfl) (by simp) ?_
      refine Go.AllReadyH.cons (o := _) rfl (fun K hK => ?_) Go.AllReadyH.nil
      have HKX := Lib.hid hK
      clear hK
      go_simp
      go_at_call 24
      obtain ⟨z0, z1, z2, _, _, zp⟩ := SV9.out.keepD.zs
      have kg := Serve.ground_any Z4 W H A4 c4 l w9.drew SV9.out.keepD.cells.sl.2 SV9.out.nil_ (by omega) z0 z1 z2 zp
      refine Calls.mono kg ?_
      rintro e wa ⟨Aa, ca, rfl, owna, hba⟩
      have OWA := Lib.hid owna
      have HBA := Lib.hid ((B9.out.drew).trans (hba.mono (HK.out _ B9.out).2.2.2))
      have s1 := (HK.out _ HBA.out).1
      refine HKX.out.out _ _ s1 (fun hHeld => ?_)
      clear HKX
      try simp only [Act.put, List.getElem_toArray, List.getElem_cons_succ, List.getElem_cons_zero, List.setIfInBounds_toArray, List.set_cons_zero, List.set_cons_succ]
      refine Go.wpAnyH_ready (fuel := 1) (rs := [3]) (by kernel_rfl) (by simp) ?_
      refine Go.AllReadyH.cons (o := _) rfl (fun K hK => ?_) Go.AllReadyH.nil
      have HKX := Lib.hid hK
      clear hK
      go_simp
      go_at_call 25
      have ksg := same_cells W H Aa A ca c l l true (by simp) wa OWA.out.sl.2 (HK.out _ HBA.out).2.1 hll
      refine Calls.mono ksg ?_
      rintro e wb ⟨rfl, hbb⟩
      have HBB := Lib.hid (HBA.out.trans (hbb.mono (HK.out _ HBA.out).2.2.2))
      have s2 := (HK.out _ HBB.out).1
      refine HKX.out.out _ _ s2 (fun hHeld => ?_)
      clear HKX
      try simp only [Act.put, List.getElem_toArray, List.getElem_cons_succ, List.getElem_cons_zero, List.setIfInBounds_toArray, List.set_cons_zero, List.set_cons_succ]
      refine Go.wpAnyH_take (fuel := 0) (i := 4) (oi := _) (v := ?_) rfl (by kernel_rfl) (by kernel_rfl) (by kernel_rfl) (fun _ _ _ h => h) (Or.inl ⟨by rfl, ?_⟩) (by first | exact hHeld | assumption) ?_
      rotate_left
      · (intro w hSw; (try dsimp only at hSw); (try unfold SN at hSw); go_simp)
        try with_reducible rfl
      try simp only [Act.put, List.getElem_toArray, List.getElem_cons_succ, List.getElem_cons_zero, List.setIfInBounds_toArray, List.set_cons_zero, List.set_cons_succ]
      refine Go.wpAnyH_done (by kernel_rfl) ?_ _
      have HFIN := Lib.hid (HK.out _ HBB.out).2.2.1
      clear s1 s2 HBA HBB hba hbb OWA owna kg ksg z0 z1 z2 zp hHeld
      go_wp2
      go_ret
      exact ⟨rfl, HFIN.out⟩
  · have kn := new_no W H A9 c9 l wc HO9.out.sl.2 (by omega) hg
    have hne : (gchk W H l != 0) = true := by rw [bne_iff_ne]; exact hg
    have KN := Lib.hid kn
    clear kn hg
    generalize gchk W H l = z at *
    go_wp2_with fail
    refine KN.out.mono ?_
    rintro e w4 ⟨rfl, hb4⟩
    have B4 := B2.out.trans (hb4.mono (HK.out _ B2.out).2.2.2)
    clear KN hb4 B2 x0 x1 x2 zX
    go_wp2_with fail
    refine (ground_s _).mono ?_
    rintro e w5 ⟨S1, rfl, s1, hb5⟩
    have B5 := B4.trans (hb5.mono (HK.out _ B4).2.2.2)
    clear hb5 B4
    go_wp2_with fail
    refine (new_s _ _ s1).mono ?_
    rintro e w6 ⟨Z2, A2, c2, rfl, _, hb6⟩
    have HFIN := Lib.hid (HK.out _ (B5.trans (hb6.mono (HK.out _ B5).2.2.2))).2.2.1
    clear hb6 B5 s1
    go_wp2
    go_ret
    exact ⟨rfl, HFIN.out⟩

theorem own : ownKnob Try.prog.godebug = none := by kernel_rfl
theorem laidOut : laidOutB Try.prog = true := by kernel_rfl

set_option maxRecDepth 100000 in
theorem contract (H : Type) (enc : TypeId × Value → H) (W : World) (base : Nat) (args : Array Value) (ds gs : List (DataW H)) (before : List MemPlace)
    (hval0 : ∀ (j : Nat) t v, Try.f7.params[j]? = some t → args[j]? = some v → Value.okWide Try.prog W .any base t v)
    (hW : DataW.Whole enc Try.prog Try.f7.params.toList Rows.serveOwnSpec.vars false W args.toList ds gs before) (hk : Rows.uptoSmall H (ds ++ gs) = true) :
    Calls Try.prog 7 args W fun e W' => ∃ v, e = .returned v ∧ Rows.serveOwnSpec.post enc Try.prog Try.f7 false true false false W args v W' := by
  have hval : ∀ (j : Nat) t v, Try.f7.params[j]? = some t → args[j]? = some v → Value.okWide Try.prog W .any base t v := hval0
  have hW' := hW
  obtain ⟨p, q, hA0, hV, rfl, hfz, hnd⟩ := hW
  have hA : DataW.TrodAll enc Try.prog W 0 (fun _ => true) true Try.f7.params.toList args.toList ds p := hA0
  rw [Try.params7] at hA hval
  obtain ⟨v0, vs0, d0, ds0, p0, q0, hargs, rfl, rfl, h0, r0⟩ := trodAll_cons hA
  obtain ⟨v1, vs1, d1, ds1, p1, q1, rfl, rfl, rfl, h1, r1⟩ := trodAll_cons r0
  obtain ⟨v2, vs2, d2, ds2, p2, q2, rfl, rfl, rfl, h2, r2⟩ := trodAll_cons r1
  obtain ⟨v3, vs3, d3, ds3, p3, q3, rfl, rfl, rfl, h3, r3⟩ := trodAll_cons r2
  obtain ⟨rfl, rfl, rfl⟩ := trodAll_nil r3
  obtain rfl : args = #[v0, v1, v2, v3] := by cases args; simp_all
  obtain ⟨rfl, rfl⟩ := trodVars_none hV
  obtain ⟨W0, H0, A0, c0, l0, dd0, rfl, hW0, hH0, hG0, hb0, rfl, hd0⟩ := open_grid Try.underlying24 (by kernel_rfl) (by kernel_rfl) Try.underlying3 Try.underlying3 Try.underlying22 Try.underlying3 (by kernel_rfl) (hval 0 24 v0 rfl rfl) h0
  obtain ⟨a1, rfl, rfl, rfl, wa1⟩ := open_int Try.underlying3 (hval 1 3 v1 rfl rfl) h1
  obtain ⟨a2, rfl, rfl, rfl, wa2⟩ := open_int Try.underlying3 (hval 2 3 v2 rfl rfl) h2
  obtain ⟨A3, c3, l3, rfl, hG3, hd3, hb3⟩ := open_sl2 Try.underlying26 Try.underlying39 (by kernel_rfl) (by kernel_rfl) Try.underlying3 Try.underlying3 (hval 3 26 v3 rfl rfl) h3
  have hbulk := bulk_bound hk
  simp only [List.cons_append, List.nil_append, List.append_nil, Rows.uptoBulkAll] at hbulk
  have hq0 := bulk_agg3 (x := .lit (.int .i64 W0)) (y := .lit (.int .i64 H0)) hd0
  have hq1 := bulk_len hd3
  refine (walk W W0 H0 A0 c0 l0 hW0 hH0 hG0 a1 (wf_bd wa1) a2 (wf_bd wa2) A3 c3 l3 hG3 (by omega)).mono fun e W' ⟨he, hB⟩ => ?_
  subst he
  exact ⟨_, rfl, post_of_law laidOut rfl Try.underlying4 rfl (by intro t ht; rw [Try.params7] at ht; simp at ht; rcases ht with rfl | rfl | rfl | rfl <;> exact ⟨by kernel_rfl, of_decide_eq_true (by kernel_rfl)⟩) hW' rfl hB⟩

set_option maxRecDepth 100000 in
theorem lifted (os : Os) (started : os.Started) (H : Type) (enc : TypeId × Value → H) (F : Stop.Interp) :
    ReturnsInHanded {} Try.checked os 7 .any ((Rows.OpenSpec.upto Rows.serveOwnSpec).pre6 enc Try.prog Try.f7 Rows.serveOwnUptoRow.domain false) (((Rows.OpenSpec.upto Rows.serveOwnSpec).at F).post enc Try.prog Try.f7 false true false false) := by
  refine returnsInHanded_of_cond (C := Try.checked) (s := Rows.OpenSpec.upto Rows.serveOwnSpec) (k := Rows.uptoSmall) rfl own started (by kernel_rfl) Try.func7
    (OpenSpec.witness (enc := enc) (C := Try.checked) (s := Rows.OpenSpec.upto Rows.serveOwnSpec) (k := Rows.uptoSmall) rfl false ⟨#[], #[.agg #[.int .i64 0, .int .i64 0, .slice none 0 0], .int .i64 0, .int .i64 0, .slice none 0 0], []⟩ 8 (by kernel_rfl) (by kernel_rfl) (by kernel_rfl)
      (x := ([.agg [.lit (.int .i64 0), .lit (.int .i64 0), .nil], .lit (.int .i64 0), .lit (.int .i64 0), .nil], [], [])) (by kernel_rfl) rfl (by kernel_rfl)) ?_
  intro W base args ds gs before hval hW _ hk _
  exact contract H enc W base args ds gs before hval hW hk

theorem holds : Rows.ServeOwnUptoSaid :=
  OpenClaim.holds_of_cond 7 Try.f7 rfl rfl rfl rfl rfl rfl rfl ⟨rfl, rfl, rfl, rfl, rfl⟩ rfl rfl rfl rfl rfl (by kernel_rfl) Try.func7 (by kernel_rfl)
    (of_decide_eq_true (by kernel_rfl)) (by unfold Func.isWrapper; first | (rw [if_pos (by decide +kernel)]; kernel_rfl) | (rw [if_neg (by decide +kernel)]; exact ⟨rfl, rfl⟩))
    (fun os started H enc _ F => lifted os started H enc F)
#print axioms holds
end Go.Proofs.Ytpoolpaagbeokaa.ServeOwnLaw
