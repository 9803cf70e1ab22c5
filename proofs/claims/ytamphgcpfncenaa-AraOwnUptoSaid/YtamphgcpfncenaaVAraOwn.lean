/- For every net, two places, list of guesses, list of weights and number that are not too long in all: AraOwn answers true (a search has what it needs as copies, and what it tells is a copy), and the arguments read as before. Condition: the lists together are no longer than 1048576. -/
import Derived.Test.YtamphgcpfncenaaRows
import Derived.Test.YtamphgcpfncenaaVAraUse2
import Derived.Test.YtamphgcpfncenaaVDijkTwo
import Derived.Test.YtamphgcpfncenaaVBulk
import Derived.Test.YtamphgcpfncenaaVSpoilRat
import Derived.Test.YtamphgcpfncenaaVSpoilRnd
import Derived.Test.YtamphgcpfncenaaVStdRatio
import Derived.Test.YtamphgcpfncenaaVWithin
import Derived.IntWalk
namespace Go.Proofs.Ytamphgcpfncenaa.AraOwnLaw
open Go.ChangeShapes Go.WideShapes Go.ChangeAt Go.RowKit Go.Proofs.Ytamphgcpfncenaa NetLaw BellLaw StarLaw AraLaw Go.Proofs.Ytamphgcpfncenaa.Net Go.Proofs.Ytamphgcpfncenaa.Std Go.Proofs.Ytamphgcpfncenaa.Flow Go.Proofs.Ytamphgcpfncenaa.Refs Go.Proofs.Ytamphgcpfncenaa.Ara Go.Proofs.Ytamphgcpfncenaa.StarF Go.Proofs.Ytamphgcpfncenaa.Room Go.Proofs.Ytamphgcpfncenaa.Within
set_option linter.unusedSimpArgs false
set_option linter.unusedVariables false
/-- a row that is not the search's may be written -/
theorem sr_off {b : Nat} {w w' : World} {P : Nat} {F : Fix} {Y : Var} {fr k : Nat} {s : AS} {r : Option Nat} (h : SR b w P F Y fr k s) (hg : w.grownBy w' r) (hr : ∀ g, r = some g → ¬ All P F Y g) : SR b w' P F Y fr k s :=
  ⟨h.run, ⟨h.sm.am.keepF (fun g hg2 => hg.block g (h.sm.am.all hg2).2 (fun e => hr g e.symm hg2)), h.sm.hr, h.sm.cb⟩, h.top⟩
theorem own_nil {α : Type} {w : World} {b : Nat} {e : TypeId} {sz : Nat} {cell : α → Nat → Value} {A : Option Addr} {n c : Nat} {l : List α} (h : Own w b e sz cell (.slice A n c) l) : (A = none → l.length = 0 ∧ c = 0) ∧ n ≤ c ∧ l.length = n := by
  obtain ⟨A', c', hv, hc, hn⟩ := h.form
  injection hv with h1 h2 h3
  subst h1 h3
  exact ⟨fun e => hn e, by omega, h2.symm⟩
theorem clone_e (A : Option Addr) (m c : Nat) (l : List E) (hm : l.length = m) (hA : A = none → l.length = 0 ∧ c = 0) (hlen : m ≤ 1048576) (W : World) (h : Sl W W.heap.size 3 ce A l) : Calls Try.prog 13 #[.slice A m c] W fun e w' => ∃ A' c', e = .returned (.slice A' m c') ∧ Own w' W.heap.size 27 3 ce (.slice A' m c') l ∧ Below W.heap.size W w' := by
  subst hm
  refine (clone_edge A c l W.heap.size W h (Nat.le_refl _) hA (by omega)).mono ?_
  rintro e w' ⟨A', c', h1, h2, h3⟩
  exact ⟨A', c', h1, h2, h3⟩
theorem clone_i (A : Option Addr) (m c : Nat) (l : List Int) (hm : l.length = m) (hA : A = none → l.length = 0 ∧ c = 0) (hlen : m ≤ 1048576) (W : World) (h : Sl W W.heap.size 1 ci A l) : Calls Try.prog 42 #[.slice A m c] W fun e w' => ∃ A' c', e = .returned (.slice A' m c') ∧ Own w' W.heap.size 3 1 ci (.slice A' m c') l ∧ Below W.heap.size W w' := by
  subst hm
  refine (clone_int A c l W.heap.size W h (Nat.le_refl _) hA (by omega)).mono ?_
  rintro e w' ⟨A', c', h1, h2, h3⟩
  exact ⟨A', c', h1, h2, h3⟩
theorem clone_r (A : Option Addr) (m c : Nat) (l : List (Int × Int)) (hm : l.length = m) (hA : A = none → l.length = 0 ∧ c = 0) (hlen : m ≤ 1048576) (W : World) (h : Sl W W.heap.size 2 cp A l) : Calls Try.prog 46 #[.slice A m c] W fun e w' => ∃ A' c', e = .returned (.slice A' m c') ∧ Own w' W.heap.size 66 2 cp (.slice A' m c') l ∧ Below W.heap.size W w' := by
  subst hm
  refine (clone_ratio A c l W.heap.size W h (Nat.le_refl _) hA (by omega)).mono ?_
  rintro e w' ⟨A', c', h1, h2, h3⟩
  exact ⟨A', c', h1, h2, h3⟩
theorem net_cells {W : World} {R : Nat} {v0 v1 : Value} (hr : W.heap[R]? = some (.cells #[v0, v1] 24 (0, 0))) : W.cell? ⟨R, 0, none⟩ = some v0 ∧ W.cell? ⟨R, 1, none⟩ = some v1 ∧ W.frozen? ⟨R, 0, none⟩ = false ∧ W.frozen? ⟨R, 1, none⟩ = false := by
  have c0 := blk_cell hr 0
  have c1 := blk_cell hr 1
  simp only [List.getElem?_toArray, List.getElem?_cons_zero, List.getElem?_cons_succ] at c0 c1
  exact ⟨c0, c1, blk_free hr 0, blk_free hr 1⟩
theorem net_set {W : World} {R : Nat} {v0 v1 : Value} (hr : W.heap[R]? = some (.cells #[v0, v1] 24 (0, 0))) (x y : Value) : ((W.setCell ⟨R, 0, none⟩ x).setCell ⟨R, 1, none⟩ y).heap[R]? = some (.cells #[x, y] 24 (0, 0)) := by
  have h1 := blk_set hr 0 x
  have h2 := blk_set h1 1 y
  simpa using h2
set_option maxRecDepth 100000 in
set_option maxHeartbeats 16000000 in
theorem walk (w : World) (N : Int) (A : Option Addr) (c : Nat) (l : List E) (hA : Arg w 3 ce A c l) (a : Int) (ha : -9223372036854775808 ≤ a ∧ a ≤ 9223372036854775807) (b : Int) (hb : -9223372036854775808 ≤ b ∧ b ≤ 9223372036854775807) (Ah : Option Addr) (ch : Nat) (h : List Int) (hAh : Arg w 1 ci Ah ch h) (Aw : Option Addr) (cw : Nat) (ws : List (Int × Int)) (hAw : Arg w 2 cp Aw cw ws) (k : Int) (hk : -9223372036854775808 ≤ k ∧ k ≤ 9223372036854775807)
    (hbulk : l.length + (h.length + ws.length) ≤ 1048576) :
    Calls Try.prog 11 #[.agg #[.int .i64 N, .slice A l.length c], .int .i64 a, .int .i64 b, .slice Ah h.length ch, .slice Aw ws.length cw, .int .i64 k] w fun e w' => e = .returned (.bool true) ∧ Below w.heap.size w w' := by
  have hs := hA.sl
  have hss := hAh.sl
  have hws := hAw.sl
  have hll : l.length ≤ 1048576 := by omega
  have hhl : h.length ≤ 1048576 := by omega
  have hwl : ws.length ≤ 1048576 := by omega
  have n1 := hA.nil
  have n2 := hAh.nil
  have n3 := hAw.nil
  clear hA hAh hAw ha hb hbulk
  have HK := Lib.hid (fun W hW => abox (N := N) (c := c) (W := W) hs hss hws hW)
  have HB0 := Lib.hid (Below.refl (w.heap.size + 1) (w.alloc (.cells #[.int .i64 N, .slice A l.length c] 24)))
  have KWI := Lib.hid (fun W => within_any k 60 (by decide) (by decide) W)
  have hwi := (wi_spec k 60 (by decide) (by decide)).2
  obtain ⟨ml, hml⟩ : ∃ ml, l.length = ml := ⟨_, rfl⟩
  obtain ⟨mh, hmh⟩ : ∃ mh, h.length = mh := ⟨_, rfl⟩
  obtain ⟨mw, hmw⟩ : ∃ mw, ws.length = mw := ⟨_, rfl⟩
  have kce := fun W h1 => clone_e A ml c l hml n1 (by omega) W h1
  have kci := fun W h1 => clone_i Ah mh ch h hmh n2 (by omega) W h1
  have kcr := fun W h1 => clone_r Aw mw cw ws hmw n3 (by omega) W h1
  have KCE := Lib.hid kce
  have KCI := Lib.hid kci
  have KCR := Lib.hid kcr
  have HML := Lib.hid hml
  have HMH := Lib.hid hmh
  have HMW := Lib.hid hmw
  clear kce kci kcr hk
  by_cases hx : ncode N a b l h ws = 0
  · obtain ⟨hx0, hy0⟩ := ncode_zero.1 hx
    obtain ⟨hlk, hC⟩ := slook_zero.1 hx0
    obtain ⟨hg, hc, ⟨a0, a1⟩, b0, b1⟩ := DijkWay.looks_zero hlk
    obtain ⟨⟨hw1, hw8⟩, hwo⟩ := wcode_ok hy0
    have hN1 := hg.lo
    have hN2 := hg.hi
    obtain ⟨n, rfl⟩ := Int.eq_ofNat_of_zero_le (show 0 ≤ N by omega)
    obtain ⟨f, rfl⟩ := Int.eq_ofNat_of_zero_le a0
    obtain ⟨t, rfl⟩ := Int.eq_ofNat_of_zero_le b0
    have krun := fun W h1 h2 h3 => run_yes n f t A c l Ah ch h Aw cw ws W h1 n1 h2 n2 h3 n3 hx0 hy0
    have knew := fun W A9 c9 A10 c10 A11 c11 h1 m1 h2 m2 h3 m3 => new_yes n f t A9 c9 l A10 c10 h A11 c11 ws W h1 m1 h2 m2 h3 m3 hx0 hy0
    have hbd := fun (s : AS) (k : Nat) (hr : Rn n t l h ws f k s) => hr.bound hC hg hc (by omega) (by omega) hw8 (fun w hw => ⟨(hwo w hw).1.1, (hwo w hw).2.2⟩)
    rw [hml, hmh, hmw] at krun knew ⊢
    rw [hml] at HB0
    have KRUN := Lib.hid krun
    have KNEW := Lib.hid knew
    have HBD := Lib.hid hbd
    clear krun knew hbd hlk hC hg hc hwo hx hx0 hy0 n1 n2 n3 hs hss hws a0 a1 b0 b1 hw1
    rw [hml] at HK
    rw [hmw] at hw8
    clear hml hmh hmw hll hhl hwl
    go_enter Try.func11, Try.ntmps11
    obtain ⟨⟨q0, q1, Z0⟩, ⟨sg, sh, sw⟩, H0⟩ := HK.out _ HB0.out
    go_wp2_with fail
    refine (KRUN.out _ sg sh sw).mono ?_
    rintro e w1 ⟨A1, k1, c1, R1, sw1, m1, rfl, hrc, hrn, hov, hb1⟩
    have hk1 : k1 = mw := by rw [← HMW.out, ← hov]; exact hrc.len.2.symm
    subst hk1
    have RC1 := Lib.hid hrc
    have HRN := Lib.hid hrn
    have HOV := Lib.hid hov
    have B1 := Lib.hid (HB0.out.trans (hb1.mono Z0))
    clear q0 q1 Z0 sg sh sw H0 hb1 hrc hrn hov KRUN
    obtain ⟨⟨q0, q1, Z1⟩, ⟨sg, sh, sw⟩, H1⟩ := HK.out _ B1.out
    have zq : w.heap.size < w1.heap.size := Z1
    have hcl : ∀ wd : World, Below w1.heap.size w1 wd → wd.cell? ⟨w.heap.size, 0, none⟩ = some (.int .i64 n) ∧ wd.cell? ⟨w.heap.size, 1, none⟩ = some (.slice A ml c) := fun wd hbd => ⟨below_cells hbd zq q0, below_cells hbd zq q1⟩
    have hke := fun (W : World) (hW : Below w1.heap.size w1 W) => KCE.out W ((sg.keep hW (Nat.le_refl _)).more hW.size)
    have HCL := Lib.hid hcl
    have HKE := Lib.hid hke
    have BA := Lib.hid ((Below.refl w1.heap.size w1).alloc (Nat.le_refl _) (.cells #[.int .i64 0, .slice none 0 0] 24)).drew
    have RA := Lib.hid (show ((w1.alloc (.cells #[.int .i64 0, .slice none 0 0] 24)).drew).heap[w1.heap.size]? = _ from heap_alloc_new w1 (.cells #[.int .i64 0, .slice none 0 0] 24))
    have hca := HCL.out _ BA.out
    clear hcl hke sg sh sw H1 KCE
    go_upto_region 2 with fail
    go_cut [15] from 34 to 40 (fun s15 wx => ∃ (X : Nat) (A9 : Option Addr) (c9 : Nat), s15 = .pointer (some ⟨X, 0, none⟩) ∧ w1.heap.size ≤ X ∧ Hid (wx.heap[X]? = some (.cells #[.int .i64 n, .slice A9 ml c9] 24 (0, 0))) ∧ Hid (Own wx w1.heap.size 27 3 ce (.slice A9 ml c9) l) ∧ Hid (Below w1.heap.size w1 wx))
    case first =>
      go_region_held3 (fun wd => wd.cell? ⟨w.heap.size, 0, none⟩ = some (.int .i64 n) ∧ wd.cell? ⟨w.heap.size, 1, none⟩ = some (.slice A ml c))
        (first
          | go_keep
          | exact hca
          | exact p8
          | exact p7)
        (first
          | (go_at_call 13; refine (HKE.out _ (by with_reducible exact (Below.refl _ _).drew)).mono ?_; rintro e w6 ⟨A9, c9, rfl, own6, hb6⟩; have hb7 := (Below.refl w1.heap.size w1).drew.trans (hb6.mono (Nat.le_refl _)); have p8 := HCL.out _ hb7; have HOW := Lib.hid (own6.mono (Nat.le_refl _)); have HB7 := Lib.hid hb7; clear own6 hb6 hb7)
          | (go_at_call 13; refine (HKE.out _ (by with_reducible exact BA.out)).mono ?_; rintro e w6 ⟨A9, c9, rfl, own6, hb6⟩; have hb7 := BA.out.trans (hb6.mono (by simp)); have p8 := HCL.out _ hb7; have hr6 := blk_below RA.out hb6 (by simp); obtain ⟨d0, d1, e0, e1⟩ := net_cells hr6; have hR6 := lt_of_block hr6; have HOW := Lib.hid (own6.mono (base' := w1.heap.size) (by simp)); have HB7 := Lib.hid hb7; have p7 := HCL.out _ ((hb7.setCell (p := ⟨w1.heap.size, 0, none⟩) (Nat.le_refl _) (.int .i64 n)).setCell (p := ⟨w1.heap.size, 1, none⟩) (Nat.le_refl _) (.slice A9 ml c9)); have HR6 := Lib.hid hr6; clear own6 hb6 hb7 hr6))
      all_goals
        try simp only [Act.put, List.getElem_toArray, List.getElem_cons_succ, List.getElem_cons_zero, List.setIfInBounds_toArray, List.set_cons_zero, List.set_cons_succ]
        go_wp2_with fail
        go_meet
        first
          | exact ⟨_, A9, c9, rfl, HB7.out.size, Lib.hid (heap_alloc_new _ _), Lib.hid (HOW.out.alloc _), Lib.hid (HB7.out.alloc HB7.out.size _)⟩
          | exact ⟨_, A9, c9, rfl, Nat.le_refl _, Lib.hid (net_set HR6.out _ _), Lib.hid ((HOW.out.setCell (HOW.out.ne_ HR6.out (by decide)) _).setCell (HOW.out.ne_ HR6.out (by decide)) _), Lib.hid ((HB7.out.setCell (p := ⟨w1.heap.size, 0, none⟩) (Nat.le_refl _) _).setCell (p := ⟨w1.heap.size, 1, none⟩) (Nat.le_refl _) _)⟩
    case rest =>
    obtain ⟨X, A9, c9, rfl, hX, HRX, HO9, HB2⟩ := hcut
    clear HCL HKE BA RA hca q0 q1 zq
    have hbz := HB2.out.size
    have hbw2 := B1.out.trans (HB2.out.mono Z1)
    obtain ⟨_, ⟨_, sh, sw⟩, _⟩ := HK.out _ hbw2
    have hsh := fun (W : World) (hW : Below wc.heap.size wc W) => KCI.out W ((sh.keep hW (Nat.le_refl _)).more hW.size)
    have hsw := fun (W : World) (hW : Below wc.heap.size wc W) => KCR.out W ((sw.keep hW (Nat.le_refl _)).more hW.size)
    have KH := Lib.hid hsh
    have KW := Lib.hid hsw
    clear hsh hsw sh sw hbw2 KCI KCR
    go_wp2_with fail
    refine (KH.out _ (Below.refl _ _)).mono ?_
    rintro e w3 ⟨A10, c10, rfl, own10, hb3⟩
    have HB3 := Lib.hid hb3
    have HO10 := Lib.hid own10
    clear own10 hb3
    go_wp2_with fail
    refine (KW.out _ HB3.out).mono ?_
    rintro e w4 ⟨A11, c11, rfl, own11, hb4⟩
    have HB4 := Lib.hid (HB3.out.trans (hb4.mono HB3.out.size))
    have HO10b := Lib.hid (HO10.out.keep hb4)
    have HO11 := Lib.hid own11
    have hs34 := HB3.out.size
    clear own11 hb4 HO10 HB3 KH KW
    have hrx4 := blk_below HRX.out HB4.out (lt_of_block HRX.out)
    have o9 := HO9.out.keep HB4.out
    have kn := KNEW.out w4 A9 c9 A10 c10 A11 c11 o9.sl.2 (by have h := (own_nil o9).1; rw [HML.out] at h; exact h) HO10b.out.sl.2 (by have h := (own_nil HO10b.out).1; rw [HMH.out] at h; exact h) HO11.out.sl.2 (by have h := (own_nil HO11.out).1; rw [HMW.out] at h; exact h)
    obtain ⟨x0, x1, _, _⟩ := net_cells hrx4
    have zX := lt_of_block hrx4
    have KN := Lib.hid kn
    have HRX4 := Lib.hid hrx4
    have HO9b := Lib.hid o9
    clear kn hrx4 o9 KNEW
    go_wp2_with fail
    refine KN.out.mono ?_
    rintro e w5 ⟨Z, F, Y, s, rfl, hF1, hF2, hF3, hF4, hF5, hO, hP, sr, hb5⟩
    have HOO := Lib.hid hO
    have HPP := Lib.hid hP
    have HFW : Hid (F.ws.length = k1) := Lib.hid (by rw [hF5]; exact HMW.out)
    have HRUN : Hid (∀ (kk : Nat) (s' : AS), Rn F.n F.tt F.l F.h F.ws f kk s' → Rn n t l h ws f kk s') := Lib.hid (fun kk s' hr => by rw [hF1, hF2, hF3, hF4, hF5] at hr; exact hr)
    have SR5 := Lib.hid sr
    have hz4 : w1.heap.size ≤ w4.heap.size := Nat.le_trans hbz HB4.out.size
    have B5 := Lib.hid (HB2.out.trans ((HB4.out.mono hbz).trans (hb5.mono hz4)))
    have o9 := HO9b.out.keep hb5
    have HO9c := Lib.hid o9
    have HO10c := Lib.hid (HO10b.out.keep hb5)
    have HO11c := Lib.hid (HO11.out.keep hb5)
    have hrx5 := blk_below HRX4.out hb5 zX
    obtain ⟨y0, y1, _, _⟩ := net_cells hrx5
    have zX5 := lt_of_block hrx5
    have hlt9 : ∀ g, (Value.slice A9 ml c9).ownBlock = some g → g < w4.heap.size := fun g e => (HO9b.out.base_ g e).2
    have hlt10 : ∀ g, (Value.slice A10 mh c10).ownBlock = some g → g < w4.heap.size := fun g e => (HO10b.out.base_ g e).2
    have hlt11 : ∀ g, (Value.slice A11 k1 c11).ownBlock = some g → g < w4.heap.size := fun g e => (HO11.out.base_ g e).2
    have HL9 := Lib.hid hlt9
    have HL10 := Lib.hid hlt10
    have HL11 := Lib.hid hlt11
    clear hF1 hF2 hF3 hF4 hF5 hO hP sr hb5 o9 hrx5 x0 x1 zX KN HRX4 HRX hlt9 hlt10 hlt11 HO9 HO9b HO10b HO11
    go_wp2_with fail
    refine (spoil_edge A9 ml ml c9 w1.heap.size l 0 0 1 w5 HO9c.out (own_nil HO9c.out).2.1).mono ?_
    rintro e w6 ⟨rfl, hg6⟩
    have SR6 := Lib.hid (sr_off SR5.out hg6 (fun g e ha => by have h1 := HL9.out g e; have h2 := (SR5.out.sm.am.all ha).1; omega))
    have B6 := Lib.hid (B5.out.grown hg6 B5.out.size (fun g e => (HO9c.out.base_ g e).1))
    have HO10d := Lib.hid (HO10c.out.kept hg6 (own_apart HO10c.out HO9c.out (by decide)))
    have HO11d := Lib.hid (HO11c.out.kept hg6 (own_apart HO11c.out HO9c.out (by decide)))
    clear hg6 SR5 B5 HO9c HO10c HO11c y0 y1 zX5
    go_wp2_with fail
    refine (spoil_int A10 mh mh c10 wc.heap.size h 1 w6 HO10d.out (own_nil HO10d.out).2.1).mono ?_
    rintro e w7 ⟨rfl, hg7⟩
    have SR7 := Lib.hid (sr_off SR6.out hg7 (fun g e ha => by have h1 := HL10.out g e; have h2 := (SR6.out.sm.am.all ha).1; omega))
    have B7 := Lib.hid (B6.out.grown hg7 B6.out.size (fun g e => Nat.le_trans hbz (HO10d.out.base_ g e).1))
    have HO11e := Lib.hid (HO11d.out.kept hg7 (own_apart HO11d.out HO10d.out (by decide)))
    clear hg7 SR6 B6 HO10d HO11d
    go_wp2_with fail
    refine (spoil_ratio A11 k1 k1 c11 w3.heap.size ws w7 HO11e.out (own_nil HO11e.out).2.1).mono ?_
    rintro e w8 ⟨rfl, hg8⟩
    have SR8 := Lib.hid (sr_off SR7.out hg8 (fun g e ha => by have h1 := HL11.out g e; have h2 := (SR7.out.sm.am.all ha).1; omega))
    have B8 := Lib.hid (B7.out.grown hg8 B7.out.size (fun g e => Nat.le_trans (Nat.le_trans hbz hs34) (HO11e.out.base_ g e).1))
    clear hg8 SR7 B7 HO11e HL9 HL10 HL11
    obtain ⟨x, hxx⟩ : ∃ x, (wi k 60 : Int) = x := ⟨_, rfl⟩
    have hx64 : x ≤ 60 := by omega
    rw [hxx] at KWI
    clear hxx hwi
    go_wp2_with fail
    refine (KWI.out w8).mono ?_
    rintro e w8b ⟨rfl, hw8b⟩
    have hw8c := hw8b.symm
    clear hw8b
    subst hw8c
    have kst := step_any HOO.out HPP.out SR8.out x (by omega)
    have KST := Lib.hid kst
    clear kst KWI
    go_wp2_with fail
    refine KST.out.mono ?_
    rintro e w9 ⟨j9, s9, Y9, rfl, sr9, fr9, _, _⟩
    have B9 := Lib.hid (B8.out.trans ((SR8.out.sm.am.lo fr9).mono hz4))
    obtain ⟨hp9, hl9⟩ := SI.paths (sr9.si HOO.out HPP.out)
    have kro := rounds_sep sr9.sm.am hp9 (by have := HOO.out.wl; omega)
    have KRO := Lib.hid kro
    have SR9 := Lib.hid sr9
    have HNA : Hid (∀ g, w9.heap.size ≤ g → ¬ All Z F Y9 g) := Lib.hid (fun g hg ha => by have := (sr9.sm.am.all ha).2; omega)
    have hl8 : s9.rds.length ≤ 8 := by have := HOO.out.wl; omega
    clear kro sr9 fr9 hp9 hl9 KST SR8 B8
    go_wp2_with fail
    refine KRO.out.mono ?_
    rintro e w10 ⟨A12, k12, c12, R12, rfl, rc, hb10, hpw⟩
    have hk12 : k12 ≤ 8 := by rw [← rc.len.2]; exact hl8
    have hrl := rc.len.1
    have SR10 := Lib.hid (SR9.out.keep hb10)
    have B10 := Lib.hid (B9.out.trans (hb10.mono B9.out.size))
    have HRO := Lib.hid rc.own
    have HWY : Hid (∀ i, 0 ≤ i → (hi : i < R12.length) → Own w10 w9.heap.size 3 1 ci (.slice R12[i].A R12[i].k R12[i].c) R12[i].path) := Lib.hid (fun i _ hi => rc.ways _ (List.getElem_mem hi))
    have HPW := Lib.hid hpw
    have HRL := Lib.hid hrl
    have hz9 := B9.out.size
    clear rc hb10 hpw hrl KRO SR9 B9 hl8
    go_wp2
    go_loopw [99] (fun i wr => ∃ j : Nat, i = .int .i64 j ∧ j ≤ k12 ∧ Hid (SR w4.heap.size wr Z F Y9 f (0 + j9) s9) ∧ Hid (Below w1.heap.size w1 wr) ∧ Hid (Own wr w9.heap.size 69 5 Ara.cr (.slice A12 k12 c12) R12) ∧ Hid (∀ i, j ≤ i → (hi : i < R12.length) → Own wr w9.heap.size 3 1 ci (.slice R12[i].A R12[i].k R12[i].c) R12[i].path)) (fun i _ => k12 - (intOf i).toNat)
    case atStart => exact ⟨0, rfl, Nat.zero_le _, SR10, B10, HRO, HWY⟩
    case round =>
      obtain ⟨j, rfl, hj, HM, HB, HR, HW⟩ := hrel
      clear SR10 B10 HRO HWY
      by_cases hlt : j < k12
      · have hjl : j < R12.length := by rw [HRL.out]; exact hlt
        obtain ⟨S, c', hv, _, hS, _, hcc⟩ := HR.out.some_ (by omega)
        have hA12 : A12 = some ⟨S, 0, none⟩ := by injection hv with hv
        have c0 := (hcc j hjl 0 (by omega)).1
        have c1 := (hcc j hjl 1 (by omega)).1
        have c2 := (hcc j hjl 2 (by omega)).1
        have c3 := (hcc j hjl 3 (by omega)).1
        have c4 := (hcc j hjl 4 (by omega)).1
        have ho := HW.out j (Nat.le_refl _) hjl
        have hrest : ∀ i, j + 1 ≤ i → (hi : i < R12.length) → ob R12[i].A = none ∨ ob R12[i].A ≠ ob R12[j].A := fun i h1 hi => List.pairwise_iff_getElem.1 HPW.out j i hjl hi (by omega)
        have HRS := Lib.hid hrest
        obtain ⟨x, hxx⟩ : ∃ x, R12[j] = x := ⟨_, rfl⟩
        rw [hxx] at ho HRS
        have e0 : Ara.cr R12[j] 0 = .int .i64 x.num := by rw [hxx]; rfl
        have e1 : Ara.cr R12[j] 1 = .int .i64 x.den := by rw [hxx]; rfl
        have e2 : Ara.cr R12[j] 2 = .slice x.A x.k x.c := by rw [hxx]; rfl
        have e3 : Ara.cr R12[j] 3 = .int .i64 x.cost := by rw [hxx]; rfl
        have e4 : Ara.cr R12[j] 4 = .int .i64 x.done := by rw [hxx]; rfl
        rw [e0, Nat.add_zero] at c0
        rw [e1] at c1
        rw [e2] at c2
        rw [e3] at c3
        rw [e4] at c4
        have zj : (j : Int) < (k12 : Int) := by omega
        have hb4 : Below wr.heap.size wr (wr.alloc (.cells #[.int .i64 x.num, .int .i64 x.den, .slice x.A x.k x.c, .int .i64 x.cost, .int .i64 x.done] 69)) := (Below.refl _ _).alloc (Nat.le_refl _) _
        have hbx := heap_alloc_new wr (.cells #[.int .i64 x.num, .int .i64 x.den, .slice x.A x.k x.c, .int .i64 x.cost, .int .i64 x.done] 69)
        have HM4 := Lib.hid (HM.out.keep hb4)
        have HB4q := Lib.hid (HB.out.trans (hb4.mono HB.out.size))
        have HR4 := Lib.hid (HR.out.keep hb4)
        have HW4 : Hid (∀ i, j ≤ i → (hi : i < R12.length) → Own (wr.alloc (.cells #[.int .i64 x.num, .int .i64 x.den, .slice x.A x.k x.c, .int .i64 x.cost, .int .i64 x.done] 69)) w9.heap.size 3 1 ci (.slice R12[i].A R12[i].k R12[i].c) R12[i].path) := Lib.hid (fun i h1 hi => (HW.out i h1 hi).keep hb4)
        have HOX := Lib.hid (ho.keep hb4)
        clear hv hcc hrest hxx e0 e1 e2 e3 e4 ho hb4 hjl HM HB HR HW
        go_upto_region 16 with fail
        generalize wr.alloc (.cells #[.int .i64 x.num, .int .i64 x.den, .slice x.A x.k x.c, .int .i64 x.cost, .int .i64 x.done] 69) = w11 at hbx HM4 HB4q HR4 HW4 HOX ⊢
        generalize wr.heap.size = X24 at hbx ⊢
        have x2 := blk_cell hbx 2
        simp only [List.getElem?_toArray, List.getElem?_cons_zero, List.getElem?_cons_succ] at x2
        have zX := lt_of_block hbx
        clear hbx c0 c1 c2 c3 c4 hA12 hS
        go_wp2_with fail
        refine (spoil_int x.A x.k x.k x.c w9.heap.size x.path 99 w11 HOX.out (own_nil HOX.out).2.1).mono ?_
        rintro e w12 ⟨rfl, hg12⟩
        have SR12 := Lib.hid (sr_off HM4.out hg12 (fun g e => HNA.out g (HOX.out.base_ g e).1))
        have B12 := Lib.hid (HB4q.out.grown hg12 HB4q.out.size (fun g e => Nat.le_trans hz9 (HOX.out.base_ g e).1))
        have R12k := Lib.hid (HR4.out.kept hg12 (own_apart HR4.out HOX.out (by decide)))
        have W12 : Hid (∀ i, j + 1 ≤ i → (hi : i < R12.length) → Own w12 w9.heap.size 3 1 ci (.slice R12[i].A R12[i].k R12[i].c) R12[i].path) := Lib.hid (fun i h1 hi => (HW4.out i (by omega) hi).kept hg12 (by rw [obrow, obrow]; exact HRS.out i h1 hi))
        clear hg12 x2 zX HM4 HB4q HR4 HW4 HOX HRS
        go_wp2
        go_roundw
        case rel => exact ⟨j + 1, by go_num, hlt, SR12, B12, R12k, W12⟩
        case measure => simp [intOf]; omega
      · have zj : ¬ ((j : Int) < (k12 : Int)) := by omega
        clear HW HPW
        go_wp2_with fail
        refine (spoil_round A12 k12 k12 c12 w9.heap.size R12 wr HR.out (own_nil HR.out).2.1).mono ?_
        rintro e w13 ⟨rfl, hg13⟩
        have SR13 := Lib.hid (sr_off HM.out hg13 (fun g e => HNA.out g (HR.out.base_ g e).1))
        have B13 := Lib.hid (HB.out.grown hg13 HB.out.size (fun g e => Nat.le_trans hz9 (HR.out.base_ g e).1))
        clear hg13 HM HB HR HNA
        have kst := step_any HOO.out HPP.out SR13.out 100000 (by decide)
        have KST := Lib.hid kst
        clear kst
        go_wp2_with fail
        refine KST.out.mono ?_
        rintro e w14 ⟨j14, s14, Y14, rfl, sr14, fr14, hj14, hov14⟩
        have hk14 := HBD.out s14 _ (HRUN.out _ _ sr14.run)
        have hov := hov14 (by omega)
        have B14 := Lib.hid (B13.out.trans ((SR13.out.sm.am.lo fr14).mono hz4))
        obtain ⟨hp14, hl14⟩ := SI.paths (sr14.si HOO.out HPP.out)
        have hone := (HRUN.out _ _ sr14.run).one HRN.out (by rw [hov, HFW.out]; exact HMW.out.symm) HOV.out
        have hss : s14.rds = sw1.rds := by rw [hone.2]
        have hlen14 : s14.rds.length = k1 := by rw [hov]; exact HFW.out
        have kov := isover_any sr14.sm.am
        rw [decide_eq_true hov] at kov
        have kro := fun (W : World) (hW : Below w14.heap.size w14 W) => rounds_any (sr14.sm.am.keep hW) hp14 (by omega)
        have KOV := Lib.hid kov
        have KRO := Lib.hid kro
        have HSS := Lib.hid hss
        have HLEN := Lib.hid hlen14
        have HP14 := Lib.hid hp14
        clear kov kro hss hlen14 hone hov hov14 hj14 hk14 sr14 fr14 hp14 hl14 KST SR13 B13
        go_wp2_with fail
        refine KOV.out.mono ?_
        rintro e w15 ⟨rfl, kk, rfl⟩
        have hb15 := below_drewN (Below.refl w14.heap.size w14) kk
        have KR2 := Lib.hid (KRO.out _ hb15)
        have B15 := Lib.hid (below_drewN B14.out kk)
        clear KOV KRO hb15 B14
        go_wp2_with fail
        refine KR2.out.mono ?_
        rintro e w16 ⟨A16, k16, c16, R16, rfl, rc16, hb16⟩
        have hk16 : k16 = k1 := by rw [← HLEN.out]; exact rc16.len.2.symm
        subst hk16
        have B16 := Lib.hid (B15.out.trans (hb16.mono B15.out.size))
        have hrr : ∀ x ∈ R16, x.k ≤ 64 := fun y hy => by
          have h1 := (rc16.ways y hy).sl.1
          have h2 := HP14.out y.rnd (by rw [← rc16.rnd]; exact List.mem_map_of_mem hy)
          have h3 : y.path.length ≤ 64 := h2
          omega
        have heq : R16.map RE.rnd = R1.map RE.rnd := by rw [rc16.rnd, RC1.out.rnd]; exact HSS.out
        have keq := same_rounds A16 A1 k16 c16 c1 R16 R1 w16 rc16.rd (RC1.out.keep B16.out).rd hrr (by omega) heq
        have KEQ := Lib.hid keq
        clear hrr heq keq rc16 hb16 KR2 B15
        go_wp2_with fail
        refine KEQ.out.mono ?_
        rintro e w17 ⟨rfl, hb17⟩
        have hfin := (HK.out _ (B1.out.trans ((B16.out.trans (hb17.mono B16.out.size)).mono Z1))).2.2
        have HFIN := Lib.hid hfin
        clear hb17 KEQ B16 hfin
        go_wp2
        go_ret
        exact ⟨rfl, HFIN.out⟩
  · have krun := fun W h1 h2 h3 => run_no N a b A c l Ah ch h Aw cw ws W h1 h2 h3 (by omega) (by omega) (by omega) hx
    have knew := fun W A9 c9 A10 c10 A11 c11 h1 h2 h3 => new_no N a b A9 c9 l A10 c10 h A11 c11 ws W h1 h2 h3 (by omega) (by omega) (by omega) hx
    have hne : (ncode N a b l h ws != 0) = true := by rw [bne_iff_ne]; exact hx
    have KEY0 := Lib.hid (fun W g hl g1 c1 hh g2 c2 hw => two_new W g hl g1 c1 hh g2 c2 hw)
    rw [hml, hmh, hmw] at krun knew ⊢
    rw [hml] at HB0 HK
    generalize ncode N a b l h ws = z at *
    have KRUN := Lib.hid krun
    have KNEW := Lib.hid knew
    clear krun knew hx hs hss hws n1 n2 n3 hml hmh hmw hll hhl hwl
    go_enter Try.func11, Try.ntmps11
    obtain ⟨⟨q0, q1, Z0⟩, ⟨sg, sh, sw⟩, H0⟩ := HK.out _ HB0.out
    go_wp2_with fail
    refine (KRUN.out _ sg sh sw).mono ?_
    rintro e w1 ⟨rfl, hb1⟩
    have B1 := Lib.hid (HB0.out.trans (hb1.mono Z0))
    clear q0 q1 Z0 sg sh sw H0 hb1 KRUN
    obtain ⟨⟨q0, q1, Z1⟩, ⟨sg, sh, sw⟩, H1⟩ := HK.out _ B1.out
    have zq : w.heap.size < w1.heap.size := Z1
    have hcl : ∀ wd : World, Below w1.heap.size w1 wd → wd.cell? ⟨w.heap.size, 0, none⟩ = some (.int .i64 N) ∧ wd.cell? ⟨w.heap.size, 1, none⟩ = some (.slice A ml c) := fun wd hbd => ⟨below_cells hbd zq q0, below_cells hbd zq q1⟩
    have hke := fun (W : World) (hW : Below w1.heap.size w1 W) => KCE.out W ((sg.keep hW (Nat.le_refl _)).more hW.size)
    have HCL := Lib.hid hcl
    have HKE := Lib.hid hke
    have BA := Lib.hid ((Below.refl w1.heap.size w1).alloc (Nat.le_refl _) (.cells #[.int .i64 0, .slice none 0 0] 24)).drew
    have RA := Lib.hid (show ((w1.alloc (.cells #[.int .i64 0, .slice none 0 0] 24)).drew).heap[w1.heap.size]? = _ from heap_alloc_new w1 (.cells #[.int .i64 0, .slice none 0 0] 24))
    have hca := HCL.out _ BA.out
    clear hcl hke sg sh sw H1 KCE
    go_upto_region 2 with fail
    go_cut [15] from 34 to 40 (fun s15 wx => ∃ (X : Nat) (A9 : Option Addr) (c9 : Nat), s15 = .pointer (some ⟨X, 0, none⟩) ∧ w1.heap.size ≤ X ∧ Hid (wx.heap[X]? = some (.cells #[.int .i64 N, .slice A9 ml c9] 24 (0, 0))) ∧ Hid (Own wx w1.heap.size 27 3 ce (.slice A9 ml c9) l) ∧ Hid (Below w1.heap.size w1 wx))
    case first =>
      go_region_held3 (fun wd => wd.cell? ⟨w.heap.size, 0, none⟩ = some (.int .i64 N) ∧ wd.cell? ⟨w.heap.size, 1, none⟩ = some (.slice A ml c))
        (first
          | go_keep
          | exact hca
          | exact p8
          | exact p7)
        (first
          | (go_at_call 13; refine (HKE.out _ (by with_reducible exact (Below.refl _ _).drew)).mono ?_; rintro e w6 ⟨A9, c9, rfl, own6, hb6⟩; have hb7 := (Below.refl w1.heap.size w1).drew.trans (hb6.mono (Nat.le_refl _)); have p8 := HCL.out _ hb7; have HOW := Lib.hid (own6.mono (Nat.le_refl _)); have HB7 := Lib.hid hb7; clear own6 hb6 hb7)
          | (go_at_call 13; refine (HKE.out _ (by with_reducible exact BA.out)).mono ?_; rintro e w6 ⟨A9, c9, rfl, own6, hb6⟩; have hb7 := BA.out.trans (hb6.mono (by simp)); have p8 := HCL.out _ hb7; have hr6 := blk_below RA.out hb6 (by simp); obtain ⟨d0, d1, e0, e1⟩ := net_cells hr6; have hR6 := lt_of_block hr6; have HOW := Lib.hid (own6.mono (base' := w1.heap.size) (by simp)); have HB7 := Lib.hid hb7; have p7 := HCL.out _ ((hb7.setCell (p := ⟨w1.heap.size, 0, none⟩) (Nat.le_refl _) (.int .i64 N)).setCell (p := ⟨w1.heap.size, 1, none⟩) (Nat.le_refl _) (.slice A9 ml c9)); have HR6 := Lib.hid hr6; clear own6 hb6 hb7 hr6))
      all_goals
        try simp only [Act.put, List.getElem_toArray, List.getElem_cons_succ, List.getElem_cons_zero, List.setIfInBounds_toArray, List.set_cons_zero, List.set_cons_succ]
        go_wp2_with fail
        go_meet
        first
          | exact ⟨_, A9, c9, rfl, HB7.out.size, Lib.hid (heap_alloc_new _ _), Lib.hid (HOW.out.alloc _), Lib.hid (HB7.out.alloc HB7.out.size _)⟩
          | exact ⟨_, A9, c9, rfl, Nat.le_refl _, Lib.hid (net_set HR6.out _ _), Lib.hid ((HOW.out.setCell (HOW.out.ne_ HR6.out (by decide)) _).setCell (HOW.out.ne_ HR6.out (by decide)) _), Lib.hid ((HB7.out.setCell (p := ⟨w1.heap.size, 0, none⟩) (Nat.le_refl _) _).setCell (p := ⟨w1.heap.size, 1, none⟩) (Nat.le_refl _) _)⟩
    case rest =>
    obtain ⟨X, A9, c9, rfl, hX, HRX, HO9, HB2⟩ := hcut
    clear HCL HKE BA RA hca q0 q1 zq
    have hbz := HB2.out.size
    have hbw2 := B1.out.trans (HB2.out.mono Z1)
    obtain ⟨_, ⟨_, sh, sw⟩, _⟩ := HK.out _ hbw2
    have hsh := fun (W : World) (hW : Below wc.heap.size wc W) => KCI.out W ((sh.keep hW (Nat.le_refl _)).more hW.size)
    have hsw := fun (W : World) (hW : Below wc.heap.size wc W) => KCR.out W ((sw.keep hW (Nat.le_refl _)).more hW.size)
    have KH := Lib.hid hsh
    have KW := Lib.hid hsw
    clear hsh hsw sh sw hbw2 KCI KCR
    go_wp2_with fail
    refine (KH.out _ (Below.refl _ _)).mono ?_
    rintro e w3 ⟨A10, c10, rfl, own10, hb3⟩
    have HB3 := Lib.hid hb3
    have HO10 := Lib.hid own10
    clear own10 hb3
    go_wp2_with fail
    refine (KW.out _ HB3.out).mono ?_
    rintro e w4 ⟨A11, c11, rfl, own11, hb4⟩
    have HB4 := Lib.hid (HB3.out.trans (hb4.mono HB3.out.size))
    have HO10b := Lib.hid (HO10.out.keep hb4)
    have HO11 := Lib.hid own11
    have hs34 := HB3.out.size
    clear own11 hb4 HO10 HB3 KH KW
    have hrx4 := blk_below HRX.out HB4.out (lt_of_block HRX.out)
    have o9 := HO9.out.keep HB4.out
    have kn := KNEW.out w4 A9 c9 A10 c10 A11 c11 o9.sl.2 HO10b.out.sl.2 HO11.out.sl.2
    obtain ⟨x0, x1, _, _⟩ := net_cells hrx4
    have zX := lt_of_block hrx4
    have KN := Lib.hid kn
    clear kn hrx4 o9 KNEW HRX
    go_wp2_with fail
    refine KN.out.mono ?_
    rintro e w5 ⟨rfl, hb5⟩
    have hz4 : w1.heap.size ≤ w4.heap.size := Nat.le_trans hbz HB4.out.size
    have B5 := Lib.hid (B1.out.trans ((HB2.out.trans ((HB4.out.mono hbz).trans (hb5.mono hz4))).mono Z1))
    have hz5 : w.heap.size + 1 ≤ w5.heap.size := by have := B5.out.size; simpa using this
    clear hb5 KN x0 x1 zX HB2 HB4 HO9 HO10b HO11
    go_wp2_with fail
    refine (two_any _).mono ?_
    rintro e v1 ⟨g, rfl, own1, hb1⟩
    have C1 := B5.out.trans (hb1.mono hz5)
    have Z1v : w.heap.size + 1 ≤ v1.heap.size := by have := C1.size; simpa using this
    clear hb1
    go_wp2_with fail
    refine (one_anyA _).mono ?_
    rintro e v1b ⟨rfl, hb1⟩
    have hk1 : Below v1.heap.size v1 v1b := ((Below.refl _ _).alloc (Nat.le_refl _) (.cells #[.int .i64 0, .int .i64 0] 3)).trans (hb1.mono (by simp))
    have hk2 : Below v1b.heap.size v1b (v1b.alloc (.cells #[.int .i64 1, .int .i64 1] 66)) := (Below.refl _ _).alloc (Nat.le_refl _) _
    have sl1 := (own1.keep (hk1.trans (hk2.mono hk1.size))).sl.2
    have si1 := ((((sl_new' (sz := 1) (cell := ci) (by decide) v1 #[.int .i64 0, .int .i64 0] 3 [0, 0] rfl rfl).keep hb1 (Nat.le_refl _)).more hb1.size).keep hk2 (Nat.le_refl _)).more hk2.size
    have sr1 := sl_new' (sz := 2) (cell := cp) (by decide) v1b #[.int .i64 1, .int .i64 1] 66 [(1, 1)] rfl rfl
    have C1b := (C1.alloc Z1v (.cells #[.int .i64 0, .int .i64 0] 3)).trans (hb1.mono (by simp; omega))
    have Z1b : w.heap.size + 1 ≤ v1b.heap.size := by have := C1b.size; simpa using this
    have C1c := C1b.alloc Z1b (.cells #[.int .i64 1, .int .i64 1] 66)
    have Z1c : w.heap.size + 1 ≤ (v1b.alloc (.cells #[.int .i64 1, .int .i64 1] 66)).heap.size := by have := C1c.size; simpa using this
    clear hb1 own1 C1 Z1v hk1 hk2 C1b Z1b
    go_wp2_with fail
    refine (KEY0.out _ _ sl1 _ _ si1 _ _ sr1).mono ?_
    rintro e v2 ⟨Z2, F2, Y2, s2, rfl, _, _, _, _, hb2⟩
    have hfin := (HK.out _ (C1c.trans (hb2.mono Z1c))).2.2
    have HFIN := Lib.hid hfin
    clear sl1 si1 sr1 hb2 C1c Z1c hfin
    go_wp2
    go_ret
    exact ⟨rfl, HFIN.out⟩

theorem own : ownKnob Try.prog.godebug = none := by kernel_rfl
theorem laidOut : laidOutB Try.prog = true := by kernel_rfl

set_option maxRecDepth 100000 in
theorem contract (H : Type) (enc : TypeId × Value → H) (W : World) (base : Nat) (args : Array Value) (ds gs : List (DataW H)) (before : List MemPlace)
    (hval0 : ∀ (j : Nat) t v, Try.f11.params[j]? = some t → args[j]? = some v → Value.okWide Try.prog W .any base t v)
    (hW : DataW.Whole enc Try.prog Try.f11.params.toList Rows.araOwnSpec.vars false W args.toList ds gs before) (hk : Rows.uptoSmall H (ds ++ gs) = true) :
    Calls Try.prog 11 args W fun e W' => ∃ v, e = .returned v ∧ Rows.araOwnSpec.post enc Try.prog Try.f11 false true false false W args v W' := by
  have hval : ∀ (j : Nat) t v, Try.f11.params[j]? = some t → args[j]? = some v → Value.okWide Try.prog W .any base t v := hval0
  have hW' := hW
  obtain ⟨p, q, hA0, hV, rfl, hfz, hnd⟩ := hW
  have hA : DataW.TrodAll enc Try.prog W 0 (fun _ => true) true Try.f11.params.toList args.toList ds p := hA0
  rw [Try.params11] at hA hval
  obtain ⟨v0, vs0, d0, ds0, p0, q0, hargs, rfl, rfl, h0, r0⟩ := trodAll_cons hA
  obtain ⟨v1, vs1, d1, ds1, p1, q1, rfl, rfl, rfl, h1, r1⟩ := trodAll_cons r0
  obtain ⟨v2, vs2, d2, ds2, p2, q2, rfl, rfl, rfl, h2, r2⟩ := trodAll_cons r1
  obtain ⟨v3, vs3, d3, ds3, p3, q3, rfl, rfl, rfl, h3, r3⟩ := trodAll_cons r2
  obtain ⟨v4, vs4, d4, ds4, p4, q4, rfl, rfl, rfl, h4, r4⟩ := trodAll_cons r3
  obtain ⟨v5, vs5, d5, ds5, p5, q5, rfl, rfl, rfl, h5, r5⟩ := trodAll_cons r4
  obtain ⟨rfl, rfl, rfl⟩ := trodAll_nil r5
  obtain rfl : args = #[v0, v1, v2, v3, v4, v5] := by cases args; simp_all
  obtain ⟨rfl, rfl⟩ := trodVars_none hV
  obtain ⟨N0, A0, c0, l0, dd0, rfl, hN0, hG0, hb0, rfl, hd0⟩ := open_net Try.underlying24 (by kernel_rfl) (by kernel_rfl) Try.underlying3 Try.underlying22 Try.underlying27 (by kernel_rfl) (by kernel_rfl) Try.underlying3 Try.underlying3 Try.underlying3 (hval 0 24 v0 rfl rfl) h0
  obtain ⟨a1, rfl, rfl, rfl, wa1⟩ := open_int Try.underlying3 (hval 1 3 v1 rfl rfl) h1
  obtain ⟨a2, rfl, rfl, rfl, wa2⟩ := open_int Try.underlying3 (hval 2 3 v2 rfl rfl) h2
  obtain ⟨A3, c3, l3, rfl, hG3, hd3, hb3⟩ := open_sl1 Try.underlying34 Try.underlying3 (by kernel_rfl) (hval 3 34 v3 rfl rfl) h3
  obtain ⟨A4, c4, l4, rfl, hG4, hd4, hb4⟩ := open_sl2 Try.underlying61 Try.underlying66 (by kernel_rfl) (by kernel_rfl) Try.underlying3 Try.underlying3 (hval 4 61 v4 rfl rfl) h4
  obtain ⟨a5, rfl, rfl, rfl, wa5⟩ := open_int Try.underlying3 (hval 5 3 v5 rfl rfl) h5
  have hbulk := bulk_bound hk
  simp only [List.cons_append, List.nil_append, List.append_nil, Rows.uptoBulkAll] at hbulk
  have hq0 := bulk_agg2 (x := .lit (.int .i64 N0)) hd0
  have hq1 := bulk_len hd3
  have hq2 := bulk_len hd4
  refine (walk W N0 A0 c0 l0 hG0 a1 (wf_bd wa1) a2 (wf_bd wa2) A3 c3 l3 hG3 A4 c4 l4 hG4 a5 (wf_bd wa5) (by omega)).mono fun e W' ⟨he, hB⟩ => ?_
  subst he
  exact ⟨_, rfl, post_of_law laidOut rfl Try.underlying4 rfl (by intro t ht; rw [Try.params11] at ht; simp at ht; rcases ht with rfl | rfl | rfl | rfl | rfl | rfl <;> exact ⟨by kernel_rfl, of_decide_eq_true (by kernel_rfl)⟩) hW' rfl hB⟩

set_option maxRecDepth 100000 in
theorem lifted (os : Os) (started : os.Started) (H : Type) (enc : TypeId × Value → H) (F : Stop.Interp) :
    ReturnsInHanded {} Try.checked os 11 .any ((Rows.OpenSpec.upto Rows.araOwnSpec).pre6 enc Try.prog Try.f11 Rows.araOwnUptoRow.domain false) (((Rows.OpenSpec.upto Rows.araOwnSpec).at F).post enc Try.prog Try.f11 false true false false) := by
  refine returnsInHanded_of_cond (C := Try.checked) (s := Rows.OpenSpec.upto Rows.araOwnSpec) (k := Rows.uptoSmall) rfl own started (by kernel_rfl) Try.func11
    (OpenSpec.witness (enc := enc) (C := Try.checked) (s := Rows.OpenSpec.upto Rows.araOwnSpec) (k := Rows.uptoSmall) rfl false ⟨#[], #[.agg #[.int .i64 0, .slice none 0 0], .int .i64 0, .int .i64 0, .slice none 0 0, .slice none 0 0, .int .i64 0], []⟩ 8 (by kernel_rfl) (by kernel_rfl) (by kernel_rfl)
      (x := ([.agg [.lit (.int .i64 0), .nil], .lit (.int .i64 0), .lit (.int .i64 0), .nil, .nil, .lit (.int .i64 0)], [], [])) (by kernel_rfl) rfl (by kernel_rfl)) ?_
  intro W base args ds gs before hval hW _ hk _
  exact contract H enc W base args ds gs before hval hW hk

theorem holds : Rows.AraOwnUptoSaid :=
  OpenClaim.holds_of_cond 11 Try.f11 rfl rfl rfl rfl rfl rfl rfl ⟨rfl, rfl, rfl, rfl, rfl⟩ rfl rfl rfl rfl rfl (by kernel_rfl) Try.func11 (by kernel_rfl)
    (of_decide_eq_true (by kernel_rfl)) (by unfold Func.isWrapper; first | (rw [if_pos (by decide +kernel)]; kernel_rfl) | (rw [if_neg (by decide +kernel)]; exact ⟨rfl, rfl⟩))
    (fun os started H enc _ F => lifted os started H enc F)
#print axioms holds
end Go.Proofs.Ytamphgcpfncenaa.AraOwnLaw
