/- The walk of (*ara.Search).best. -/
import Derived.Test.YtpoolpaagbeokaaVAraFresh
import Derived.Test.YtpoolpaagbeokaaVWalkedFn
import Derived.Deep.RegionLaw
namespace Go.Proofs.Ytpoolpaagbeokaa.Ara
open Go.RowKit Go.Proofs.Ytpoolpaagbeokaa NetLaw BellLaw StarLaw AraLaw Go.Proofs.Ytpoolpaagbeokaa.Net Go.Proofs.Ytpoolpaagbeokaa.Std Go.Proofs.Ytpoolpaagbeokaa.Flow
open Go.Proofs.Ytpoolpaagbeokaa.HeapP (HeapAt d0 ltP ltP_ord)
set_option linter.unusedSimpArgs false
set_option linter.unusedVariables false
/-- what best answers -/
def BestSays (w : World) (F : Fix) (s : AS) (e : Ending) (w' : World) : Prop :=
  ∃ A k c path co, e = .returned (.agg #[.slice A k c, .int .i64 co]) ∧ Own w' w.heap.size 3 1 ci (.slice A k c) path ∧ path.length = k ∧ k ≤ 64 ∧ BestA F.n F.tt F.l s (path, co) ∧ Below w.heap.size w w'
theorem way_cells {W : World} {R : Nat} {v0 v1 : Value} (hr : W.heap[R]? = some (.cells #[v0, v1] 41 (0, 0))) : W.cell? ⟨R, 0, none⟩ = some v0 ∧ W.cell? ⟨R, 1, none⟩ = some v1 ∧ W.frozen? ⟨R, 0, none⟩ = false ∧ W.frozen? ⟨R, 1, none⟩ = false := by
  have c0 := blk_cell hr 0
  have c1 := blk_cell hr 1
  simp only [List.getElem?_toArray, List.getElem?_cons_zero, List.getElem?_cons_succ] at c0 c1
  exact ⟨c0, c1, blk_free hr 0, blk_free hr 1⟩
theorem way_set {W : World} {R : Nat} {v0 v1 : Value} (hr : W.heap[R]? = some (.cells #[v0, v1] 41 (0, 0))) (x y : Value) : ((W.setCell ⟨R, 0, none⟩ x).setCell ⟨R, 1, none⟩ y).heap[R]? = some (.cells #[x, y] 41 (0, 0)) := by
  have h1 := blk_set hr 0 x
  have h2 := blk_set h1 1 y
  simpa using h2
section
variable {b : Nat} {w w' : World} {P : Nat} {F : Fix} {Y : Var} {s : AS} {K : Nat}
theorem AM.lastR (h : AM b w P F Y s) {m : Nat} (hm : Y.kr = m + 1) : ∃ x S, Y.AR = some ⟨S, 0, none⟩ ∧ S < w.heap.size ∧ x ∈ Y.RS ∧ s.rds.getLast? = some x.rnd ∧ w.cell? ⟨S, m * 5 + 2, none⟩ = some (.slice x.A x.k x.c) ∧ w.cell? ⟨S, m * 5 + 3, none⟩ = some (.int .i64 x.cost) := by
  have hl := h.lenR
  obtain ⟨S, c, hv, _, hS, _, hc⟩ := h.rows.some_ (by omega)
  have hi : m < Y.RS.length := by omega
  refine ⟨Y.RS[m], S, ?_, hS, List.getElem_mem hi, ?_, (hc m hi 2 (by omega)).1, (hc m hi 3 (by omega)).1⟩
  · injection hv with hv
  · rw [← h.rds, List.getLast?_map, List.getLast?_eq_getElem?, hl, hm, Nat.add_sub_cancel, List.getElem?_eq_getElem hi]
    rfl
/-- the way told last, as it lies -/
theorem AM.prev (h : AM b w P F Y s) (hpl : ∀ r ∈ s.rds, r.path.length ≤ 64) : ∃ Ao ko co po path, Own w b 3 1 ci (.slice Ao ko co) path ∧ path.length = ko ∧ ko ≤ 64 ∧ (path, po) = prevW s ∧
    ((Y.kr = 0 ∧ Ao = none ∧ ko = 0 ∧ co = 0 ∧ po = far) ∨ ∃ m S, Y.kr = m + 1 ∧ Y.AR = some ⟨S, 0, none⟩ ∧ S < w.heap.size ∧ w.cell? ⟨S, m * 5 + 2, none⟩ = some (.slice Ao ko co) ∧ w.cell? ⟨S, m * 5 + 3, none⟩ = some (.int .i64 po)) := by
  rcases Nat.eq_zero_or_pos Y.kr with h0 | h0
  · have hr : s.rds = [] := by
      have := h.kr_
      exact List.eq_nil_of_length_eq_zero (by omega)
    exact ⟨none, 0, 0, far, [], Own.nil_, rfl, by omega, by unfold prevW; rw [hr]; rfl, .inl ⟨h0, rfl, rfl, rfl, rfl⟩⟩
  · obtain ⟨m, hm⟩ : ∃ m, Y.kr = m + 1 := ⟨Y.kr - 1, by omega⟩
    obtain ⟨x, S, h1, h2, h3, h4, h5, h6⟩ := h.lastR hm
    have hw := h.ways x h3
    have hmem : x.rnd ∈ s.rds := by rw [← h.rds]; exact List.mem_map_of_mem h3
    have hlx : x.path.length = x.k := hw.sl.1.symm
    refine ⟨x.A, x.k, x.c, x.cost, x.path, hw, hlx, by rw [← hlx]; exact hpl _ hmem, by unfold prevW; rw [h4]; rfl, .inr ⟨m, S, hm, h1, h2, h5, h6⟩⟩
set_option maxRecDepth 100000 in
set_option maxHeartbeats 8000000 in
theorem best_any (hO : FO F) (h : AM b w P F Y s) (hch : dg s.C F.tt < far → ∃ cs, Ch s.P F.tt cs ∧ (∀ x ∈ cs, 0 ≤ x ∧ x < F.n) ∧ cs.length ≤ 64) (hpl : ∀ r ∈ s.rds, r.path.length ≤ 64) (hrl : s.rds.length ≤ F.ws.length) :
    Calls Try.prog 60 #[.pointer (some ⟨P, 0, none⟩)] w fun e w' => BestSays w F s e w' := by
  obtain ⟨i0, hi, hz0, hz1, hz2⟩ := info_parts infoIntO
  obtain ⟨Ao, ko, co, po, pth, ho, hlo, hko, hpw, hcase⟩ := h.prev hpl
  have hX2 := blk_alloc (heap_alloc_new w (.cells #[.slice none 0 0, .int .i64 0] 41)) (.cells #[.slice none 0 0, .int .i64 1099511627776] 41)
  have hX3 : ((w.alloc (.cells #[.slice none 0 0, .int .i64 0] 41)).alloc (.cells #[.slice none 0 0, .int .i64 1099511627776] 41)).heap[w.heap.size + 1]? = some (.cells #[.slice none 0 0, .int .i64 1099511627776] 41 (0, 0)) := by
    have h := heap_alloc_new (w.alloc (.cells #[.slice none 0 0, .int .i64 0] 41)) (.cells #[.slice none 0 0, .int .i64 1099511627776] 41)
    simpa using h
  have hb1 : Below w.heap.size w ((w.alloc (.cells #[.slice none 0 0, .int .i64 0] 41)).alloc (.cells #[.slice none 0 0, .int .i64 1099511627776] 41)) := ((Below.refl _ _).alloc (Nat.le_refl _) _).alloc (by simp) _
  have am1 := h.keep hb1
  have hsz1 : w.heap.size + 1 < ((w.alloc (.cells #[.slice none 0 0, .int .i64 0] 41)).alloc (.cells #[.slice none 0 0, .int .i64 1099511627776] 41)).heap.size := by simp
  have HX2 := Lib.hid hX2
  have HX3 := Lib.hid hX3
  have HB1 := Lib.hid hb1
  have AM0 := Lib.hid h
  have AM1 := Lib.hid am1
  have HOO := Lib.hid hO
  have HCH := Lib.hid hch
  have HOWN := Lib.hid ho
  have HLO := Lib.hid hlo
  have HPW := Lib.hid hpw
  have HSZ1 := Lib.hid hsz1
  have hcase1 : (Y.kr = 0 ∧ Ao = none ∧ ko = 0 ∧ co = 0 ∧ po = far) ∨ ∃ m S, Y.kr = m + 1 ∧ Y.AR = some ⟨S, 0, none⟩ ∧ S < w.heap.size ∧ ((w.alloc (.cells #[.slice none 0 0, .int .i64 0] 41)).alloc (.cells #[.slice none 0 0, .int .i64 1099511627776] 41)).cell? ⟨S, m * 5 + 2, none⟩ = some (.slice Ao ko co) ∧ ((w.alloc (.cells #[.slice none 0 0, .int .i64 0] 41)).alloc (.cells #[.slice none 0 0, .int .i64 1099511627776] 41)).cell? ⟨S, m * 5 + 3, none⟩ = some (.int .i64 po) := by
    rcases hcase with h1 | ⟨m, S, h1, h2, h3, h4, h5⟩
    · exact .inl h1
    · exact .inr ⟨m, S, h1, h2, h3, below_cells hb1 h3 h4, below_cells hb1 h3 h5⟩
  have HCASE := Lib.hid hcase1
  have hk8 : Y.kr ≤ 8 := by have := h.kr_; have := hO.wl; omega
  clear hX2 hX3 hb1 am1 h hO hch hpl ho hlo hpw hcase hcase1 hsz1
  go_enter Try.func60, Try.ntmps60
  go_upto_region 2 with fail
  generalize (w.alloc (.cells #[.slice none 0 0, .int .i64 0] 41)).alloc (.cells #[.slice none 0 0, .int .i64 1099511627776] 41) = w1 at HX2 HX3 HB1 AM1 HCASE HSZ1 ⊢
  obtain ⟨_, ⟨_, _, _, _, _, _, z12⟩, zp⟩ := AM1.out.zs
  have hsz := HSZ1.out
  go_upto_if 13 with fail
  go_cut [4] from 7 to 23 (fun s4 wx => Hid (wx.heap[w.heap.size]? = some (.cells #[.slice none 0 0, .int .i64 0] 41 (0, 0))) ∧ Hid (wx.heap[w.heap.size + 1]? = some (.cells #[.slice Ao ko co, .int .i64 po] 41 (0, 0))) ∧ Hid (Below w.heap.size w wx) ∧ Hid (AM b wx P F Y s) ∧ Hid (w.heap.size + 1 < wx.heap.size))
  case first =>
    obtain ⟨c0, c1, f0, f1⟩ := way_cells HX3.out
    rcases HCASE.out with ⟨h1, rfl, rfl, rfl, rfl⟩ | ⟨m, S, h1, h2, h3, h4, h5⟩
    · rw [h1] at z12 ⊢
      clear h1 HCASE
      go_wp2_with fail
      go_meet
      exact ⟨HX2, HX3, HB1, AM1, HSZ1⟩
    · have zm : (m : Int) + 1 > 0 := by omega
      have hx2 := HX2.out
      have hxx : w.heap.size ≠ w.heap.size + 1 := by omega
      have e3 : (((w1.setCell ⟨w.heap.size + 1, 0, none⟩ (.slice Ao ko co)).setCell ⟨w.heap.size + 1, 1, none⟩ (.int .i64 po))).heap[w.heap.size + 1]? = some (.cells #[.slice Ao ko co, .int .i64 po] 41 (0, 0)) := way_set HX3.out _ _
      have E3 := Lib.hid e3
      have X2 := Lib.hid (blk_far (blk_far hx2 (p := ⟨w.heap.size + 1, 0, none⟩) hxx (.slice Ao ko co)) (p := ⟨w.heap.size + 1, 1, none⟩) hxx (.int .i64 po))
      have hbb := (HB1.out.setCell (p := ⟨w.heap.size + 1, 0, none⟩) (by dsimp only; omega) (.slice Ao ko co)).setCell (p := ⟨w.heap.size + 1, 1, none⟩) (by dsimp only; omega) (.int .i64 po)
      have BB := Lib.hid hbb
      have AA := Lib.hid (AM0.out.keep hbb)
      have SS : Hid (w.heap.size + 1 < ((w1.setCell ⟨w.heap.size + 1, 0, none⟩ (.slice Ao ko co)).setCell ⟨w.heap.size + 1, 1, none⟩ (.int .i64 po)).heap.size) := Lib.hid (lt_of_block e3)
      have hwm : IntKind.i64.wrap (m : Int) = m := IntWalk.i64_in _ (by omega)
      rw [h1, h2] at z12
      rw [h1]
      clear h1 h2 HCASE hbb e3 hx2
      go_wp2_with fail
      go_meet
      exact ⟨X2, E3, BB, AA, SS⟩
  case rest =>
    obtain ⟨HX2a, HX3a, HBa, HAa, HSa⟩ := hcut
    clear HX2 HX3 HB1 AM1 HCASE HSZ1 zp z12 hsz
    obtain ⟨⟨_, _, _, z3, _, _⟩, ⟨z6, _, _, _, _, _, _⟩, zp⟩ := HAa.out.zs
    obtain ⟨cc, _⟩ := HAa.out.cellC HOO.out.tt
    obtain ⟨ct, hct⟩ : ∃ ct, dg s.C (F.tt : Int) = ct := ⟨_, rfl⟩
    rw [hct] at cc
    have HCT := Lib.hid hct
    have ztt : (F.tt : Int) < (F.n : Int) := by have := HOO.out.tt; omega
    clear hct
    go_upto_region 5 with fail
    go_quiet (fail)
    have x2 : (wc.drewN nq).heap[w.heap.size]? = _ := HX2a.out
    have x3 : (wc.drewN nq).heap[w.heap.size + 1]? = _ := HX3a.out
    have hb5 := below_drewN HBa.out nq
    have am5 := HAa.out.keep (below_drewN (Below.refl _ _) nq)
    have sz5 : w.heap.size + 1 < (wc.drewN nq).heap.size := HSa.out
    have X2 := Lib.hid x2
    have X3 := Lib.hid x3
    have B5 := Lib.hid hb5
    have A5 := Lib.hid am5
    have S5 := Lib.hid sz5
    clear HX2a HX3a HBa HAa HSa x2 x3 hb5 am5 sz5 z3 z6 zp cc
    generalize wc.drewN nq = w5 at X2 X3 B5 A5 S5 ⊢
    go_upto_if 33 with fail
    go_cut [] from 23 to 53 (fun wx => Hid (wx.heap[w.heap.size]? = some (.cells #[.slice none 0 0, .int .i64 0] 41 (0, 0))) ∧ Hid (wx.heap[w.heap.size + 1]? = some (.cells #[.slice Ao ko co, .int .i64 po] 41 (0, 0))) ∧ Hid (Below w.heap.size w wx) ∧ Hid (AM b wx P F Y s) ∧ Hid (w.heap.size + 1 < wx.heap.size) ∧ Hid (BestA F.n F.tt F.l s (pth, po)))
    case first =>
      by_cases hlt : ct < far
      · have hlt' : ct < 1099511627776 := hlt
        obtain ⟨cs, hcs, hin, h64⟩ := HCH.out (by rw [HCT.out]; exact hlt)
        obtain ⟨⟨z0, z1, _, z3, _, _⟩, ⟨_, z7, _, _, _, _, _⟩, zp⟩ := A5.out.zs
        obtain ⟨q2, q3, g2, g3⟩ := way_cells X2.out
        obtain ⟨q0, q1, g0, g1⟩ := way_cells X3.out
        have sz5 := S5.out
        have kw := fun (W : World) (hW : Below w5.heap.size w5 W) => Focal.walked_any F.n F.AE F.cE F.l (some ⟨F.SP, 0, none⟩) F.n F.n s.P F.tt cs W (A5.out.keep hW).net.sl.2 (A5.out.keep hW).pred.sl.2 (by have := HOO.out.gd.len; omega) A5.out.lenP hcs hin h64 HOO.out.nb
        have hcl : ∀ wd : World, Below w5.heap.size w5 wd → wd.cell? ⟨P, 0, none⟩ = some (.int .i64 F.n) ∧ wd.cell? ⟨P, 1, none⟩ = some (.slice F.AE F.l.length F.cE) ∧ wd.cell? ⟨P, 3, none⟩ = some (.int .i64 F.tt) ∧ wd.cell? ⟨P, 7, none⟩ = some (.slice (some ⟨F.SP, 0, none⟩) F.n F.n) := fun wd hbd => ⟨below_cells hbd zp z0, below_cells hbd zp z1, below_cells hbd zp z3, below_cells hbd zp z7⟩
        obtain ⟨x9, hx9⟩ : ∃ x9, (WalkLaw.cost F.n F.l cs.reverse).1 = x9 := ⟨_, rfl⟩
        rw [hx9] at kw
        unfold Star.SomeWay at kw
        obtain ⟨mm, hmm⟩ : ∃ mm, cs.reverse.length = mm := ⟨_, rfl⟩
        rw [hmm] at kw
        have hmm64 : mm ≤ 64 := by rw [← hmm, List.length_reverse]; exact h64
        have KW := Lib.hid kw
        have HCL := Lib.hid hcl
        have HX9 := Lib.hid hx9
        have HMM := Lib.hid hmm
        have HCS := Lib.hid hcs
        have BA := Lib.hid ((Below.refl w5.heap.size w5).alloc (Nat.le_refl _) (.cells #[.slice none 0 0, .int .i64 0] 41)).drew
        have RA := Lib.hid (show ((w5.alloc (.cells #[.slice none 0 0, .int .i64 0] 41)).drew).heap[w5.heap.size]? = _ from heap_alloc_new w5 (.cells #[.slice none 0 0, .int .i64 0] 41))
        have hca := HCL.out _ BA.out
        clear kw hcl hx9 hmm hcs hin h64
        go_upto_region 6 with fail
        go_cut [5] from 23 to 47 (fun s5 wx => ∃ (X5 : Nat) (A9 : Option Addr) (c9 : Nat), s5 = .pointer (some ⟨X5, 0, none⟩) ∧ w5.heap.size ≤ X5 ∧ Hid (wx.heap[X5]? = some (.cells #[.slice A9 mm c9, .int .i64 x9] 41 (0, 0))) ∧ Hid (Own wx w5.heap.size 3 1 ci (.slice A9 mm c9) cs.reverse) ∧ Hid (Below w5.heap.size w5 wx))
        case first =>
          go_region_held3 (fun wd => wd.cell? ⟨P, 0, none⟩ = some (.int .i64 F.n) ∧ wd.cell? ⟨P, 1, none⟩ = some (.slice F.AE F.l.length F.cE) ∧ wd.cell? ⟨P, 3, none⟩ = some (.int .i64 F.tt) ∧ wd.cell? ⟨P, 7, none⟩ = some (.slice (some ⟨F.SP, 0, none⟩) F.n F.n))
            (first
              | go_keep
              | exact hca
              | exact p8
              | exact p7)
            (first
              | (go_at_call 70; refine (KW.out _ (by with_reducible exact (Below.refl _ _).drew)).mono ?_; rintro e w6 ⟨A9, c9, rfl, own6, hb6⟩; have hb7 := (Below.refl w5.heap.size w5).drew.trans (hb6.mono (Nat.le_refl _)); have p8 := HCL.out _ hb7; have HOW := Lib.hid (own6.mono (Nat.le_refl _)); have HB7 := Lib.hid hb7; clear own6 hb6 hb7)
              | (go_at_call 70; refine (KW.out _ (by with_reducible exact BA.out)).mono ?_; rintro e w6 ⟨A9, c9, rfl, own6, hb6⟩; have hb7 := BA.out.trans (hb6.mono (by simp)); have p8 := HCL.out _ hb7; have hr6 := blk_below RA.out hb6 (by simp); obtain ⟨d0, d1, e0, e1⟩ := way_cells hr6; have hR6 := lt_of_block hr6; have HOW := Lib.hid (own6.mono (base' := w5.heap.size) (by simp)); have HB7 := Lib.hid hb7; have p7 := HCL.out _ ((hb7.setCell (p := ⟨w5.heap.size, 0, none⟩) (Nat.le_refl _) (.slice A9 mm c9)).setCell (p := ⟨w5.heap.size, 1, none⟩) (Nat.le_refl _) (.int .i64 x9)); have HR6 := Lib.hid hr6; clear own6 hb6 hb7 hr6))
          all_goals
            try simp only [Act.put, List.getElem_toArray, List.getElem_cons_succ, List.getElem_cons_zero, List.setIfInBounds_toArray, List.set_cons_zero, List.set_cons_succ]
            go_wp2_with fail
            go_meet
            first
              | exact ⟨_, A9, c9, rfl, HB7.out.size, Lib.hid (heap_alloc_new _ _), Lib.hid (HOW.out.alloc _), Lib.hid (HB7.out.alloc HB7.out.size _)⟩
              | exact ⟨_, A9, c9, rfl, Nat.le_refl _, Lib.hid (way_set HR6.out _ _), Lib.hid ((HOW.out.setCell (HOW.out.ne_ HR6.out (by decide)) _).setCell (HOW.out.ne_ HR6.out (by decide)) _), Lib.hid ((HB7.out.setCell (p := ⟨w5.heap.size, 0, none⟩) (Nat.le_refl _) _).setCell (p := ⟨w5.heap.size, 1, none⟩) (Nat.le_refl _) _)⟩
        case rest =>
          obtain ⟨X5, A9, c9, rfl, hX5, HR9, HO9, HB9⟩ := hcut
          have sz6 := S5.out
          have hx2 := blk_below X2.out HB9.out (by omega)
          have hx3 := blk_below X3.out HB9.out (by omega)
          obtain ⟨q2, q3, g2, g3⟩ := way_cells hx2
          obtain ⟨q0, q1, g0, g1⟩ := way_cells hx3
          obtain ⟨r0, r1, _, _⟩ := way_cells HR9.out
          have zx5 := lt_of_block HR9.out
          have zx2 := lt_of_block hx2
          have zx3 := lt_of_block hx3
          have HX2 := Lib.hid hx2
          have HX3 := Lib.hid hx3
          have hn2 := HO9.out.ne_ hx2 (by decide)
          have hbb := B5.out.trans (HB9.out.mono B5.out.size)
          have hx52 : ¬ X5 = w.heap.size := by omega
          clear hx2 hx3 hca KW HCL BA RA z0 z1 z3 z7
          by_cases hx : x9 < po
          · have hbest : BestA F.n F.tt F.l s (cs.reverse, x9) := .inr ⟨by rw [HCT.out]; exact hlt, cs, HCS.out, by rw [← HPW.out, HX9.out, if_pos hx]⟩
            have hpost : ∀ W, Own W w5.heap.size 3 1 ci (.slice A9 mm c9) cs.reverse → Below w.heap.size w W → BestSays w F s (.returned (.agg #[.slice A9 mm c9, .int .i64 x9])) W := fun W h1 h2 => ⟨A9, mm, c9, cs.reverse, x9, rfl, h1.mono B5.out.size, HMM.out, hmm64, hbest, h2⟩
            have hpost2 := hpost _ ((HO9.out.setCell hn2 (.slice A9 mm c9) (p := ⟨w.heap.size, 0, none⟩)).setCell hn2 (.int .i64 x9) (p := ⟨w.heap.size, 1, none⟩)) ((hbb.setCell (p := ⟨w.heap.size, 0, none⟩) (Nat.le_refl _) _).setCell (p := ⟨w.heap.size, 1, none⟩) (Nat.le_refl _) _)
            have HPOST := Lib.hid hpost2
            clear hpost hpost2 hbest hn2 hbb
            go_wp2_with fail
            refine bodyPost_ret (v := .agg #[.slice A9 mm c9, .int .i64 x9]) (by simp [results, Try.results60, go_sem, q2, q3, g2, g3]) rfl ?_
            exact HPOST.out
          · have hbest : BestA F.n F.tt F.l s (pth, po) := .inr ⟨by rw [HCT.out]; exact hlt, cs, HCS.out, by rw [← HPW.out, HX9.out, if_neg hx]⟩
            have HBEST := Lib.hid hbest
            have HAM := Lib.hid (A5.out.keep HB9.out)
            have HBB := Lib.hid hbb
            clear hbest hn2 hbb
            go_wp2_with fail
            go_meet
            exact ⟨HX2, HX3, HBB, HAM, Lib.hid zx3, HBEST⟩
      · have hlt' : ¬ ct < 1099511627776 := hlt
        have hbest : BestA F.n F.tt F.l s (pth, po) := .inl ⟨by rw [HCT.out]; exact hlt, HPW.out⟩
        have HBEST := Lib.hid hbest
        clear hbest
        go_wp2_with fail
        go_meet
        exact ⟨X2, X3, B5, A5, S5, HBEST⟩
    case rest =>
      obtain ⟨HX2, HX3, HB, HA, HS, HBEST⟩ := hcut
      clear X2 X3 B5 A5 S5
      obtain ⟨q2, q3, g2, g3⟩ := way_cells HX2.out
      obtain ⟨q0, q1, g0, g1⟩ := way_cells HX3.out
      have sz := HS.out
      have hsl := (HOWN.out.keep HB.out).sl.2
      have hnil : Ao = none → ko = 0 ∧ co = 0 := fun e => by
        obtain ⟨A', c', hv, _, hn⟩ := (HOWN.out.keep HB.out).form
        injection hv with h1 h2 h3
        rw [← h1] at hn
        obtain ⟨k1, k2⟩ := hn e
        exact ⟨by rw [h2]; exact k1, by rw [h3]; exact k2⟩
      have hsz : w.heap.size ≤ wc.heap.size := HB.out.size
      have hcl : ∀ wd : World, Below wc.heap.size wc wd → wd.cell? ⟨w.heap.size + 1, 0, none⟩ = some (.slice Ao ko co) ∧ wd.cell? ⟨w.heap.size + 1, 1, none⟩ = some (.int .i64 po) := fun wd hbd => ⟨below_cells hbd sz q0, below_cells hbd sz q1⟩
      have HCL := Lib.hid hcl
      have HSL := Lib.hid hsl
      have HNIL := Lib.hid hnil
      have hpost : ∀ (W W2 : World) (A9 : Option Addr) (c9 : Nat), Own W wc.heap.size 3 1 ci (.slice A9 ko c9) pth → Below wc.heap.size wc W → (w.heap.size < W.heap.size ∧ W.cell? ⟨w.heap.size, 0, none⟩ = some (.slice none 0 0) ∧ W.cell? ⟨w.heap.size, 1, none⟩ = some (.int .i64 0) ∧ W.frozen? ⟨w.heap.size, 0, none⟩ = false ∧ W.frozen? ⟨w.heap.size, 1, none⟩ = false) ∧ BestSays w F s (.returned (.agg #[.slice A9 ko c9, .int .i64 po])) ((W.setCell ⟨w.heap.size, 0, none⟩ (.slice A9 ko c9)).setCell ⟨w.heap.size, 1, none⟩ (.int .i64 po)) := fun W W2 A9 c9 h1 h2 => by
        have hx2 := blk_below HX2.out h2 (by omega)
        obtain ⟨k1, k2, k3, k4⟩ := way_cells hx2
        have hn := h1.ne_ hx2 (by decide)
        exact ⟨⟨lt_of_block hx2, k1, k2, k3, k4⟩, A9, ko, c9, pth, po, rfl, ((h1.setCell hn (.slice A9 ko c9) (p := ⟨w.heap.size, 0, none⟩)).setCell hn (.int .i64 po) (p := ⟨w.heap.size, 1, none⟩)).mono hsz, HLO.out, hko, HBEST.out, ((HB.out.trans (h2.mono hsz)).setCell (p := ⟨w.heap.size, 0, none⟩) (Nat.le_refl _) _).setCell (p := ⟨w.heap.size, 1, none⟩) (Nat.le_refl _) _⟩
      have HPOST := Lib.hid hpost
      clear hsl hnil hcl hpost hsz q2 q3 g2 g3 g0 g1
      go_upto_region 9 with fail
      go_region_held3 (fun wd => wd.cell? ⟨w.heap.size + 1, 0, none⟩ = some (.slice Ao ko co) ∧ wd.cell? ⟨w.heap.size + 1, 1, none⟩ = some (.int .i64 po))
        (first
          | go_keep
          | exact p8)
        (first
          | (refine step_pushAll _ rfl (.const (.slice none 0 0)) (.tmp 54) _ rfl wc.heap.size 3 i0 (.int .i64 0) 1 8 ci Try.underlying22 hi hz0 hz1 hz2 rfl (by decide) _ [] 0 rfl rfl Own.nil_ wc.heap.size Ao ko co pth HLO.out rfl HNIL.out (HSL.out.keep (below_drewN (Below.refl _ _) 1) (Nat.le_refl _)) one_ci (by omega) (by omega) (Nat.le_refl _) ?_; intro A9 c9 w9 hown9 hgrow9 hat9; simp only [Nat.zero_add, List.nil_append] at hown9; have hb9 : Below wc.heap.size wc w9 := (below_drewN (Below.refl _ _) 1).grown hgrow9 (Nat.le_refl _) (fun k hk => by cases hk); have p8 := HCL.out _ hb9; obtain ⟨⟨d1, d2, d3, d4, d5⟩, d6⟩ := HPOST.out w9 w9 A9 c9 hown9 hb9; have D6 := Lib.hid d6; clear d6 hown9 hgrow9 hat9 hb9))
      all_goals
        try simp only [Act.put, List.getElem_toArray, List.getElem_cons_succ, List.getElem_cons_zero, List.setIfInBounds_toArray, List.set_cons_zero, List.set_cons_succ]
        go_wp2
        refine bodyPost_ret (v := .agg #[.slice A9 ko c9, .int .i64 po]) (by simp [results, Try.results60, go_sem, d1, d2, d3, d4, d5]) rfl ?_
        exact D6.out
end
end Go.Proofs.Ytpoolpaagbeokaa.Ara
