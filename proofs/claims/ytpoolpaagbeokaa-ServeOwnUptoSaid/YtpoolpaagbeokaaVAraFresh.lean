/- The walk of (*ara.Search).reach. -/
/- The walks of Heap[star.Place].Top and of (*ara.Search).fresh. -/
import Derived.Test.YtpoolpaagbeokaaVAraLate
import Derived.StillTailTactics
import Derived.BigRegion
import Derived.BigQuiet
import Derived.Deep.RegionHeld3
import Derived.Deep.CutRange
namespace Go.Proofs.Ytpoolpaagbeokaa.Ara
open Go.RowKit Go.Proofs.Ytpoolpaagbeokaa NetLaw BellLaw StarLaw AraLaw Go.Proofs.Ytpoolpaagbeokaa.Net Go.Proofs.Ytpoolpaagbeokaa.Std Go.Proofs.Ytpoolpaagbeokaa.Flow
open Go.Proofs.Ytpoolpaagbeokaa.Heap (Kp Kp.refl Kp.below Kp.alloc Kp.drew Kp.setCell Kp.grown Kp.to fnOf)
open Go.Proofs.Ytpoolpaagbeokaa.HeapP (HeapAt d0 ltP ltP_ord)
set_option linter.unusedSimpArgs false
set_option linter.unusedVariables false
/-- what holds of what stays -/
structure FO (F : Fix) : Prop where
  gd : NetLaw.Good F.n F.l
  c1 : ∀ e ∈ F.l, 1 ≤ e.2.2
  hh : ∀ v : Int, 0 ≤ v → v < F.n → 0 ≤ dg F.h v ∧ dg F.h v ≤ far
  wl : F.ws.length ≤ 8
  ww : ∀ w ∈ F.ws, WOk w
  tt : F.tt < F.n
/-- a search in memory, in a state -/
structure SM (b : Nat) (w : World) (P : Nat) (F : Fix) (Y : Var) (s : AS) (K : Nat) : Prop where
  am : AM b w P F Y s
  hr : s.rds.length < F.ws.length → HR F Y s (cwt F.ws s) K
  cb : CB F s
section
variable {b : Nat} {w w' : World} {P : Nat} {F : Fix} {Y : Var} {s : AS} {K : Nat}
theorem FO.nb (h : FO F) : F.n ≤ 64 := by have := h.gd.hi; omega
theorem FO.wt (h : FO F) (hr : s.rds.length < F.ws.length) : WOk (cwt F.ws s) := by
  have hc : cwt F.ws s = F.ws[s.rds.length] := by unfold cwt; rw [List.getD_eq_getElem?_getD, List.getElem?_eq_getElem hr]; rfl
  rw [hc]
  exact h.ww _ (List.getElem_mem hr)
theorem SM.keep (h : SM b w P F Y s K) (hb : Below w.heap.size w w') : SM b w' P F Y s K := ⟨h.am.keep hb, h.hr, h.cb⟩
theorem SM.more {K' : Nat} (h : SM b w P F Y s K) (hK : K ≤ K') : SM b w P F Y s K' := ⟨h.am, fun hr => (h.hr hr).more hK, h.cb⟩
theorem AM.free (h : AM b w P F Y s) : w.frozen? ⟨P, 9, none⟩ = false ∧ w.frozen? ⟨P, 11, none⟩ = false ∧ w.frozen? ⟨P, 12, none⟩ = false := ⟨blk_free h.z 9, blk_free h.z 11, blk_free h.z 12⟩
theorem AM.cellC (h : AM b w P F Y s) {v : Nat} (hv : v < F.n) : w.cell? ⟨F.SC, v, none⟩ = some (.int .i64 (dg s.C v)) ∧ w.frozen? ⟨F.SC, v, none⟩ = false := by
  obtain ⟨c1, c2⟩ := own_at1 h.lenC h.cost hv
  exact ⟨by rw [c1]; unfold dg; rw [Int.toNat_natCast], c2⟩
theorem AM.cellP (h : AM b w P F Y s) {v : Nat} (hv : v < F.n) : w.cell? ⟨F.SP, v, none⟩ = some (.int .i64 (dg s.P v)) ∧ w.frozen? ⟨F.SP, v, none⟩ = false := by
  obtain ⟨c1, c2⟩ := own_at1 h.lenP h.pred hv
  exact ⟨by rw [c1]; unfold dg; rw [Int.toNat_natCast], c2⟩
theorem AM.cellD (h : AM b w P F Y s) {v : Nat} (hv : v < F.n) : w.cell? ⟨F.SD, v, none⟩ = some (.bool (db s.dn v)) ∧ w.frozen? ⟨F.SD, v, none⟩ = false := by
  obtain ⟨c1, c2⟩ := own_atG false h.lenD h.done hv
  exact ⟨by rw [c1]; unfold db; rw [Int.toNat_natCast]; rfl, c2⟩
theorem reach1_yes {h : List Int} {v : Nat} {c u : Int} (hc : c < dg s.C v) (hz : dg h v ≠ far) : reach1 h v c u s = { s with C := s.C.set v c, P := s.P.set v u, op := if db s.dn v = true then s.op else up s.op v true, lt := if db s.dn v = true then up s.lt v true else s.lt } := by
  unfold reach1
  rw [if_pos ⟨hc, hz⟩, Int.toNat_natCast]
theorem reach1_no {h : List Int} {v c u : Int} (hc : ¬ (c < dg s.C v ∧ dg h v ≠ far)) : reach1 h v c u s = s := by
  unfold reach1
  rw [if_neg hc]
/-- what reach leaves -/
def ReachSays (b : Nat) (w : World) (P : Nat) (F : Fix) (Y : Var) (s' : AS) (K : Nat) (e : Ending) (w' : World) : Prop :=
  (∃ r, e = .returned r) ∧ ∃ Y', SM b w' P F Y' s' K ∧ Fr P F Y Y' w w'
set_option maxRecDepth 100000 in
set_option maxHeartbeats 4000000 in
theorem reach_any (hO : FO F) (h : SM b w P F Y s K) (hr : s.rds.length < F.ws.length) (hK : K ≤ 100000000) {v : Nat} (hv : v < F.n) {c u : Int} (hc : 0 ≤ c) (hc2 : c ≤ 4611686018427387904) :
    Calls Try.prog 42 #[.pointer (some ⟨P, 0, none⟩), .int .i64 v, .int .i64 c, .int .i64 u] w fun e w' => ReachSays b w P F Y (reach1 F.h v c u s) (K + 1) e w' := by
  obtain ⟨i0, hi, hz0, hz1, hz2⟩ := info_parts infoIntO
  obtain ⟨cv0, cv1⟩ := h.cb v (by omega) (by omega)
  obtain ⟨g0, g1⟩ := hO.hh v (by omega) (by omega)
  obtain ⟨⟨_, _, _, _, z4, _⟩, ⟨z6, z7, z8, _, _, _, _⟩, zp⟩ := h.am.zs
  obtain ⟨bh, oh, e4, b4, b6, y0, y1⟩ := h.am.cells hv
  obtain ⟨_, f0⟩ := h.am.cellC hv
  obtain ⟨p0, p1⟩ := h.am.cellP hv
  have hcp := h.am.neCP
  have hpc : F.SP ≠ F.SC := fun e => hcp e.symm
  rw [e4] at z4
  have HSTAY : Hid (ReachSays b w P F Y s (K + 1) (.returned (.tuple #[])) w) := Lib.hid ⟨⟨_, rfl⟩, Y, h.more (Nat.le_succ _), Fr.refl _ _ _ _⟩
  by_cases hlt : c < dg s.C v
  · by_cases hz : dg F.h v = far
    · rw [reach1_no (fun e => e.2 hz)]
      have hnn : ¬ dg s.C v ≤ c := by omega
      unfold far at hz
      clear h hO hr hK hc hc2 cv0 cv1 g0 g1 hcp hpc p0 p1 z7 z8 f0 e4
      generalize dg s.C v = cv at *
      generalize dg F.h v = g at *
      subst hz
      go_enter Try.func42, Try.ntmps42
      go_wp2_with fail
      exact bodyPost_ret (v := .tuple #[]) (by simp [results, Try.results42, go_sem]) rfl HSTAY.out
    · have hnn : ¬ dg s.C v ≤ c := by omega
      have hgg : (dg F.h v == 1099511627776) = false := by unfold far at hz; simpa using hz
      have hgn : ¬ dg F.h v = 1099511627776 := hz
      rw [reach1_yes hlt hz]
      have hcf : 0 ≤ c ∧ c ≤ far := ⟨hc, by omega⟩
      have am2 : AM b ((w.setCell ⟨F.SC, v, none⟩ (.int .i64 c)).setCell ⟨F.SP, v, none⟩ (.int .i64 u)) P F Y { s with C := s.C.set v c, P := s.P.set v u } := (h.am.setC v c).setP v u
      have am2' : AM b ((w.setCell ⟨F.SP, v, none⟩ (.int .i64 u)).setCell ⟨F.SC, v, none⟩ (.int .i64 c)) P F Y { s with C := s.C.set v c, P := s.P.set v u } := (h.am.setP v u).setC v c
      have fr2 : Fr P F Y Y w ((w.setCell ⟨F.SC, v, none⟩ (.int .i64 c)).setCell ⟨F.SP, v, none⟩ (.int .i64 u)) := ((Fr.refl P F Y w).set (p := ⟨F.SC, v, none⟩) (.inl (.inr (.inl rfl))) _).set (p := ⟨F.SP, v, none⟩) (.inl (.inr (.inr (.inl rfl)))) _
      have fr2' : Fr P F Y Y w ((w.setCell ⟨F.SP, v, none⟩ (.int .i64 u)).setCell ⟨F.SC, v, none⟩ (.int .i64 c)) := ((Fr.refl P F Y w).set (p := ⟨F.SP, v, none⟩) (.inl (.inr (.inr (.inl rfl)))) _).set (p := ⟨F.SC, v, none⟩) (.inl (.inr (.inl rfl))) _
      have A2 := Lib.hid (And.intro am2 fr2)
      have A2' := Lib.hid (And.intro am2' fr2')
      have hlen := h.am.lenC
      have hrr := h.hr hr
      have hcb := h.cb
      have HHR := Lib.hid hrr
      have HCB := Lib.hid hcb
      have HLEN := Lib.hid hlen
      have HCF := Lib.hid hcf
      have HOO := Lib.hid hO
      have HRR := Lib.hid hr
      have HLT := Lib.hid hlt
      have HSW := Lib.hid (show cwt F.ws { s with C := s.C.set v c, P := s.P.set v u } = cwt F.ws s from rfl)
      clear h hO hr am2 am2' fr2 fr2' hlen hrr hcb hcf hc hc2 cv0 cv1 g0 g1 hlt e4 HSTAY
      have hgg2 := hgg
      generalize hcv : dg s.C v = cv at *
      generalize hgv : dg F.h v = g at *
      generalize hpv : dg s.P v = pv at *
      have HCV := Lib.hid hcv
      have HGV := Lib.hid hgv
      clear hcv hgv hpv hgg2 hz
      go_enter Try.func42, Try.ntmps42
      go_upto_region 1 with fail
      go_cut [] from 27 to 41 (fun wx => Hid (AM b wx P F Y { s with C := s.C.set v c, P := s.P.set v u } ∧ Fr P F Y Y w wx))
      case first =>
        go_region
        all_goals
          go_wp2_with fail
          go_meet
          first
            | exact Lib.hid ⟨A2.out.1.keep (below_drewN (Below.refl _ _) 1), A2.out.2.drew⟩
            | exact Lib.hid ⟨A2'.out.1.keep (below_drewN (Below.refl _ _) 1), A2'.out.2.drew⟩
      case rest =>
        obtain ⟨am3, fr3⟩ := hcut.out
        clear hcut A2 A2' z4 z6 z7 z8 zp y0 y1 p0 p1 f0 hcp hpc b4 b6 hnn hgg hgn
        obtain ⟨_, ⟨_, _, z8, z9, _, _, _⟩, zp⟩ := am3.zs
        obtain ⟨f9, _, _⟩ := am3.free
        obtain ⟨d0, _⟩ := am3.cellD hv
        simp only at d0
        cases hd : db s.dn v with
        | true =>
          rw [hd] at d0
          have hown := am3.late.alloc (.cells #[.int .i64 (v : Int)] 3)
          have am3a := am3.keep ((Below.refl _ wc).alloc (Nat.le_refl _) (.cells #[.int .i64 (v : Int)] 3))
          have fr3a := fr3.below ((Below.refl _ wc).alloc (Nat.le_refl _) (.cells #[.int .i64 (v : Int)] 3))
          have hlb := HHR.out.bl
          have hsz := am3.size
          have HLL := Lib.hid am3.lenL
          have HOWN := Lib.hid hown
          have AM3 := Lib.hid am3a
          have FR3 := Lib.hid fr3a
          clear am3 fr3 hown am3a fr3a
          have hfin : ∀ (A9 : Option Addr) (c9 : Nat) (w9 : World), Own w9 b 3 1 ci (.slice A9 (Y.kl + 1) c9) (Y.LT ++ [(v : Int)]) → (wc.alloc (.cells #[.int .i64 (v : Int)] 3)).grownBy w9 (Value.slice Y.AL Y.kl Y.cl).ownBlock → ((Value.slice A9 (Y.kl + 1) c9).ownBlock = (Value.slice Y.AL Y.kl Y.cl).ownBlock ∨ (Value.slice A9 (Y.kl + 1) c9).ownBlock = some (wc.alloc (.cells #[.int .i64 (v : Int)] 3)).heap.size) → (w9.cell? ⟨P, 9, none⟩ = some (.slice Y.AL Y.kl Y.cl) ∧ w9.frozen? ⟨P, 9, none⟩ = false ∧ P < w9.heap.size) ∧ ReachSays b w P F Y { s with C := s.C.set v c, P := s.P.set v u, op := s.op, lt := up s.lt v true } (K + 1) (.returned (.tuple #[])) (w9.setCell ⟨P, 9, none⟩ (.slice A9 (Y.kl + 1) c9)) := fun A9 c9 w9 h9 g9 t9 => by
            obtain ⟨q1, q2⟩ := AM3.out.push g9 h9 t9
            have hz9 := blk_grown AM3.out.z g9 (fun e => AM3.out.late.ne_ AM3.out.z (by decide) e)
            refine ⟨⟨by rw [blk_cell hz9]; rfl, blk_free hz9 9, lt_of_block hz9⟩, ⟨_, rfl⟩, _, ⟨⟨q1.z, q1.zl, q1.net, q1.tab, q1.hh, q1.wt, q1.cost, q1.pred, q1.done, q1.late, q1.heap, q1.hp, q1.rows, q1.ways, q1.rds, q1.lenC, q1.lenP, q1.lenD, q1.lenH, q1.lenL, q1.lenR, q1.neCP, q1.neH, q1.neO, q1.neL, q1.neW⟩, fun _ => HHR.out.lates HLEN.out hv hd, HCB.out.set HLEN.out hv HCF.out⟩, FR3.out.trans q2⟩
          have HFIN := Lib.hid hfin
          clear hfin
          go_upto_region 3 with fail
          go_wp2_with (at_builtin; go_must (refine wpList_push _ rfl (.tmp 52) (.tmp 54) _ rfl b 3 i0 (.int .i64 0) 1 8 ci Try.underlying22 hi hz0 hz1 hz2 rfl (by decide) _ Y.LT Y.kl HLL.out rfl HOWN.out wc.heap.size 1 (v : Int) rfl news1 (fun _ _ => one_ci _ _) (by omega) (by omega) (by simp; omega) ?_; intro A9 c9 w9 hown9 hgrow9 hat9; obtain ⟨⟨c91, c92, c93⟩, c94⟩ := HFIN.out A9 c9 w9 hown9 hgrow9 hat9; have C94 := Lib.hid c94; clear c94 hown9 hgrow9 hat9))
          exact bodyPost_end (v := .tuple #[]) (by simp [results, Try.results42, go_sem]) rfl C94.out
        | false =>
          rw [hd] at d0
          have hput := put_any am3 HRR.out (HOO.out.wt HRR.out) hv (by
            show 0 ≤ dg (s.C.set v c) v ∧ dg (s.C.set v c) v ≤ far
            exact HCB.out.set HLEN.out hv HCF.out (P := s.P) (op := s.op) (lt := s.lt) v (by omega) (by omega)) (HOO.out.hh v (by omega) (by omega)) (by have := HHR.out.bm; omega)
          have hdv : dg (s.C.set v c) (v : Int) = c := by
            have := dg_set (D := s.C) (t := (v : Int)) (x := c) (by omega) (by rw [HLEN.out]; omega) (v := (v : Int)) (by omega)
            rw [Int.toNat_natCast, if_pos rfl] at this
            exact this
          simp only [HSW.out, hdv] at hput
          have HPUT := Lib.hid hput
          have FR3 := Lib.hid fr3
          clear am3 fr3 hput hdv
          go_upto_region 4 with fail
          go_wp2_with fail
          refine HPUT.out.mono ?_
          rintro e w4 ⟨⟨r4, rfl⟩, A4, c4, L4, am4, hpm4, fr4⟩
          have hfin : ReachSays b w P F Y { s with C := s.C.set v c, P := s.P.set v u, op := up s.op v true, lt := s.lt } (K + 1) (.returned (.tuple #[])) w4 :=
            ⟨⟨_, rfl⟩, _, ⟨⟨am4.z, am4.zl, am4.net, am4.tab, am4.hh, am4.wt, am4.cost, am4.pred, am4.done, am4.late, am4.heap, am4.hp, am4.rows, am4.ways, am4.rds, am4.lenC, am4.lenP, am4.lenD, am4.lenH, am4.lenL, am4.lenR, am4.neCP, am4.neH, am4.neO, am4.neL, am4.neW⟩, fun _ => HHR.out.put HLEN.out hv hd hpm4, HCB.out.set HLEN.out hv HCF.out⟩, FR3.out.trans fr4⟩
          have HFIN := Lib.hid hfin
          clear hfin am4 hpm4 fr4
          go_wp2
          all_goals
            exact bodyPost_end (v := .tuple #[]) (by simp [results, Try.results42, go_sem]) rfl HFIN.out
  · rw [reach1_no (fun e => hlt e.1)]
    have hnn : dg s.C v ≤ c := by omega
    clear h hO hr hK hc hc2 cv0 cv1 g0 g1 hcp hpc p0 p1 z7 z8 f0 e4 hlt
    generalize dg s.C v = cv at *
    generalize dg F.h v = g at *
    go_enter Try.func42, Try.ntmps42
    go_wp2_with fail
    exact bodyPost_ret (v := .tuple #[]) (by simp [results, Try.results42, go_sem]) rfl HSTAY.out
end
end Go.Proofs.Ytpoolpaagbeokaa.Ara

namespace Go.Proofs.Ytpoolpaagbeokaa.Ara
open Go.RowKit Go.Proofs.Ytpoolpaagbeokaa NetLaw BellLaw StarLaw AraLaw Go.Proofs.Ytpoolpaagbeokaa.Net Go.Proofs.Ytpoolpaagbeokaa.Std Go.Proofs.Ytpoolpaagbeokaa.Flow
open Go.Proofs.Ytpoolpaagbeokaa.Heap (Kp Kp.refl Kp.below Kp.alloc Kp.drew Kp.setCell Kp.grown Kp.to fnOf)
open Go.Proofs.Ytpoolpaagbeokaa.HeapP (HeapAt d0 ltP ltP_ord)
set_option linter.unusedSimpArgs false
set_option linter.unusedVariables false
theorem top_any {base H n c : Nat} {fn : Value} {A : Option Addr} {L : List HeapP.Pop} {w : World} (h : HeapAt w base H fn A n c L) (hn : 0 < n) :
    Calls Try.prog 58 #[.pointer (some ⟨H, 0, none⟩)] w fun e w' => ∃ a b x, L.getD 0 d0 = (a, b, x) ∧ e = .returned (.agg #[.int .i64 a, .int .i64 b, .int .i64 x]) ∧ Below w.heap.size w w' := by
  obtain ⟨S, a, b, x, rfl, hS0, hS1, hSH, hg0, c00, c01, c02, f00, f01, f02⟩ := h.at_ hn
  have hc1 := blk_cell h.blk 1
  have hlt := h.lt
  simp only [List.getElem?_toArray, List.getElem?_cons_zero, List.getElem?_cons_succ] at hc1
  rw [Nat.zero_mul] at c00 c01 c02
  rw [Nat.zero_add] at c01 c02
  have z0 : (0 : Int) < (n : Int) := by omega
  clear h f00 f01 f02
  go_enter Try.func58, Try.ntmps58
  go_wp2
  exact bodyPost_ret (v := .agg #[.int .i64 a, .int .i64 b, .int .i64 x]) (by simp [results, Try.results58, go_sem]) rfl ⟨a, b, x, hg0, rfl, (Below.refl _ _).alloc (Nat.le_refl _) _⟩
/-- how much waits -/
def hlen (w : World) (H : Nat) : Nat := match w.cell? ⟨H, 1, none⟩ with | some (.slice _ n _) => n | _ => 0
theorem hlen_eq {w : World} {base H n c : Nat} {fn : Value} {A : Option Addr} {L : List HeapP.Pop} (h : HeapAt w base H fn A n c L) : hlen w H = n := by
  have c1 := blk_cell h.blk 1
  simp only [List.getElem?_toArray, List.getElem?_cons_zero, List.getElem?_cons_succ] at c1
  unfold hlen
  rw [c1]
section
variable {b : Nat} {w w' : World} {P : Nat} {F : Fix} {Y : Var} {s : AS} {K : Nat}
theorem SM.top (h : SM b w P F Y s K) (hr : s.rds.length < F.ws.length) {k : Nat} (hm : Y.m = k + 1) {a g x : Int} (he : Y.L.getD 0 d0 = (a, g, x)) : (0 ≤ x ∧ x < F.n) ∧ g = dg F.h x ∧ (a, g, x) ∈ Y.L := by
  have hlen := h.am.heap.len
  have hmem : (a, g, x) ∈ Y.L := by
    rw [← he, List.getD_eq_getElem?_getD, List.getElem?_eq_getElem (by omega)]
    exact List.getElem_mem _
  obtain ⟨h1, h2, _⟩ := (h.hr hr).ids _ hmem
  exact ⟨h1, h2, hmem⟩
/-- a pop, as the search has it -/
theorem SM.pop (h : SM b w P F Y s K) {k : Nat} (hm : Y.m = k + 1) (hK : K ≤ 100000000) (hr : s.rds.length < F.ws.length) :
    Calls Try.prog 44 #[.pointer (some ⟨F.H, 0, none⟩)] w fun e w' => ∃ a g x L', e = .returned (.agg #[.int .i64 a, .int .i64 g, .int .i64 x]) ∧ Y.L.getD 0 d0 = (a, g, x) ∧ ((a, g, x) :: L').Perm Y.L ∧ AM b w' P F (Y.heap' Y.Ah k Y.ch L') s ∧ Fr P F Y (Y.heap' Y.Ah k Y.ch L') w w' := by
  have hh := h.am.heap
  rw [hm] at hh
  have hbm := (h.hr hr).bm
  refine (HeapP.pop_any ltP ltP_ord HeapP.less_any b F.H Y.Ah k Y.ch Y.L w hh h.am.hp (by omega) h.am.size).mono ?_
  rintro e w' ⟨a, g, x, L', rfl, hg, hh2, hpm, hhp, hkp⟩
  have hkp2 : Kp w w' F.H (Value.slice Y.Ah Y.m Y.ch).ownBlock := by rw [obrow] at hkp ⊢; exact hkp
  exact ⟨a, g, x, L', rfl, hg, hpm, h.am.kp hkp2 hh2 hhp, Fr.kp hkp2 (fun S e => .inl e)⟩
/-- what fresh answers -/
def FreshSays (b : Nat) (w : World) (P : Nat) (F : Fix) (Y : Var) (s : AS) (K : Nat) (e : Ending) (w' : World) : Prop :=
  ∃ r Y', e = .returned (.bool r) ∧ SM b w' P F Y' s K ∧ Fr P F Y Y' w w' ∧ (r = true → 0 < Y'.m ∧ Fresh F s (cwt F.ws s) (Y'.L.getD 0 d0)) ∧ (r = false → Y'.m = 0)
set_option maxRecDepth 100000 in
set_option maxHeartbeats 8000000 in
theorem fresh_any (hO : FO F) (h : SM b w P F Y s K) (hr : s.rds.length < F.ws.length) (hK : K ≤ 100000000) :
    Calls Try.prog 57 #[.pointer (some ⟨P, 0, none⟩)] w fun e w' => FreshSays b w P F Y s K e w' := by
  have h1 := Lib.hid h
  have HOO := Lib.hid hO
  have HRR := Lib.hid hr
  clear h hO hr
  go_enter Try.func57, Try.ntmps57
  go_wp2
  go_loopw [2] (fun b2 wr => b2 = .bool false ∧ ∃ Y', Hid (SM b wr P F Y' s K) ∧ Hid (Fr P F Y Y' w wr)) (fun _ wr => hlen wr F.H)
  case atStart => exact ⟨rfl, Y, h1, Lib.hid (Fr.refl _ _ _ _)⟩
  case round =>
    obtain ⟨rfl, Y', HM, HFR⟩ := hrel
    clear h1
    obtain ⟨_, ⟨_, _, _, _, z10, _, _⟩, zp⟩ := HM.out.am.zs
    have hml := HM.out.am.heap.len
    have klen := HeapP.len_any wr HM.out.am.heap
    have KLEN := Lib.hid klen
    obtain ⟨m', hm'⟩ : ∃ m', Y'.m = m' := ⟨_, rfl⟩
    have HMM := Lib.hid hm'
    rw [hm'] at KLEN hml
    clear klen hm'
    go_wp2_with fail
    refine KLEN.out.mono ?_
    rintro e w2 ⟨rfl, hw2⟩
    have hw2' := hw2.symm
    clear hw2
    subst hw2'
    rcases Nat.eq_zero_or_pos m' with hm0 | hm0
    · subst hm0
      have hpost : FreshSays b w P F Y s K (.returned (.bool false)) wr := ⟨false, Y', rfl, HM.out, HFR.out, fun h => (nomatch h), fun _ => HMM.out⟩
      have HPOST := Lib.hid hpost
      clear hpost
      go_wp2
      go_ret
      exact HPOST.out
    · obtain ⟨k, rfl⟩ : ∃ k, m' = k + 1 := ⟨m' - 1, by omega⟩
      have ktop := top_any HM.out.am.heap (by rw [HMM.out]; exact hm0)
      have KTOP := Lib.hid ktop
      have zk : (k : Int) + 1 > 0 := by omega
      clear ktop
      go_wp2_with fail
      refine KTOP.out.mono ?_
      rintro e w3 ⟨a, g, x, hg0, rfl, hb3⟩
      obtain ⟨hx0, hx1⟩ := (HM.out.top HRR.out HMM.out hg0).1
      obtain ⟨x, rfl⟩ := Int.eq_ofNat_of_zero_le hx0
      have hxn : x < F.n := by omega
      go_upto_region 3 with fail
      have hm4 := (HM.out.keep hb3).keep ((Below.refl _ w3).alloc (Nat.le_refl _) (.cells #[.int .i64 a, .int .i64 g, .int .i64 x] 101))
      have hbx := heap_alloc_new w3 (.cells #[.int .i64 a, .int .i64 g, .int .i64 x] 101)
      have hb4 : Below wr.heap.size wr (w3.alloc (.cells #[.int .i64 a, .int .i64 g, .int .i64 x] 101)) := hb3.alloc hb3.size _
      generalize w3.alloc (.cells #[.int .i64 a, .int .i64 g, .int .i64 x] 101) = w4 at hm4 hbx hb4 ⊢
      generalize w3.heap.size = X at hbx ⊢
      clear z10 zp hb3 KTOP KLEN
      obtain ⟨_, ⟨_, _, z8, _, z10, _, _⟩, zp⟩ := hm4.am.zs
      obtain ⟨c1, _⟩ := hm4.am.cellD hxn
      have zc := (hm4.am.done.base_ _ rfl).2
      have x0 := blk_cell hbx 0
      have x2 := blk_cell hbx 2
      simp only [List.getElem?_toArray, List.getElem?_cons_zero, List.getElem?_cons_succ] at x0 x2
      have zX := lt_of_block hbx
      have zx : (x : Int) < (F.n : Int) := by omega
      have kkey := fun (W : World) (hW : Below w4.heap.size w4 W) => key_any (hm4.am.keep hW) HRR.out (HOO.out.wt HRR.out) hxn (hm4.cb x (by omega) (by omega)) (HOO.out.hh x (by omega) (by omega))
      have hfr : Fresh F s (cwt F.ws s) (a, g, (x : Int)) ↔ (db s.dn x = false ∧ a = (cwt F.ws s).2 * dg s.C x + (cwt F.ws s).1 * dg F.h x) := Iff.rfl
      have HFF := Lib.hid hfr
      have KKEY := Lib.hid kkey
      have HB4 := Lib.hid hb4
      have HG0 := Lib.hid hg0
      clear kkey hfr hm4 hbx hb4 hg0 hx0 hx1 hml hm0
      generalize (cwt F.ws s).2 * dg s.C x + (cwt F.ws s).1 * dg F.h x = q at *
      generalize db s.dn (x : Int) = dd at *
      obtain ⟨bb, hbb⟩ : ∃ bb, decide (dd = false ∧ a = q) = bb := ⟨_, rfl⟩
      have HBB := Lib.hid hbb
      clear hbb
      go_cut [32] from 15 to 33 (fun s32 wx => s32 = .bool bb ∧ Hid (Below w4.heap.size w4 wx))
      case first =>
        cases dd with
        | true =>
          have hbf : bb = false := by rw [← HBB.out]; simp
          have HBF := Lib.hid hbf
          clear hbf
          go_quiet (fail)
          go_wp2
          go_meet
          exact ⟨by rw [HBF.out], Lib.hid (below_drewN (Below.refl _ _) nq)⟩
        | false =>
          have hcl : ∀ wd : World, Below w4.drew.heap.size w4.drew wd → wd.cell? ⟨P, 8, none⟩ = some (.slice (some ⟨F.SD, 0, none⟩) F.n F.n) ∧ wd.cell? ⟨F.SD, x, none⟩ = some (.bool false) ∧ wd.cell? ⟨X, 0, none⟩ = some (.int .i64 a) ∧ wd.cell? ⟨X, 2, none⟩ = some (.int .i64 x) := fun wd hbd =>
            ⟨(hbd.cell (p := ⟨P, 8, none⟩) zp).trans z8, (hbd.cell (p := ⟨F.SD, x, none⟩) zc).trans c1, (hbd.cell (p := ⟨X, 0, none⟩) zX).trans x0, (hbd.cell (p := ⟨X, 2, none⟩) zX).trans x2⟩
          have HCL := Lib.hid hcl
          clear hcl
          by_cases ha : a = q
          · subst ha
            have hbt : bb = true := by rw [← HBB.out]; simp
            have HBT := Lib.hid hbt
            clear hbt
            go_region_held3 (fun w' => w'.cell? ⟨P, 8, none⟩ = some (.slice (some ⟨F.SD, 0, none⟩) F.n F.n) ∧ w'.cell? ⟨F.SD, x, none⟩ = some (.bool false) ∧ w'.cell? ⟨X, 0, none⟩ = some (.int .i64 a) ∧ w'.cell? ⟨X, 2, none⟩ = some (.int .i64 x)) (first | go_keep | exact hcw) (first | (go_at_call 59; refine (KKEY.out _ (Below.refl _ _).drew).mono ?_; rintro e wd ⟨rfl, hbd⟩; have hcw := HCL.out _ hbd))
            all_goals
              go_wp2
              go_meet
              exact ⟨by rw [HBT.out], Lib.hid ((Below.refl _ _).drew.trans (hbd.mono (Nat.le_refl _)))⟩
          · have hbt : bb = false := by rw [← HBB.out]; simp [ha]
            have HBT := Lib.hid hbt
            have hbe : (a == q) = false := beq_eq_false_iff_ne.2 ha
            clear hbt ha
            go_region_held3 (fun w' => w'.cell? ⟨P, 8, none⟩ = some (.slice (some ⟨F.SD, 0, none⟩) F.n F.n) ∧ w'.cell? ⟨F.SD, x, none⟩ = some (.bool false) ∧ w'.cell? ⟨X, 0, none⟩ = some (.int .i64 a) ∧ w'.cell? ⟨X, 2, none⟩ = some (.int .i64 x)) (first | go_keep | exact hcw) (first | (go_at_call 59; refine (KKEY.out _ (Below.refl _ _).drew).mono ?_; rintro e wd ⟨rfl, hbd⟩; have hcw := HCL.out _ hbd))
            all_goals
              go_wp2
              go_meet
              exact ⟨by rw [HBT.out], Lib.hid ((Below.refl _ _).drew.trans (hbd.mono (Nat.le_refl _)))⟩
      case rest =>
        obtain ⟨rfl, HB5⟩ := hcut
        have hbw : Below wr.heap.size wr wc := HB4.out.trans (HB5.out.mono HB4.out.size)
        have hm5 := HM.out.keep hbw
        have hf5 := HFR.out.below hbw
        have HM5 := Lib.hid hm5
        have HF5 := Lib.hid hf5
        clear hbw hm5 hf5 HB4 HB5 x0 x2 zX c1 zc z8 z10 zp KKEY
        cases bb with
        | true =>
          have hfb := HFF.out.2 (of_decide_eq_true HBB.out)
          have hpost : FreshSays b w P F Y s K (.returned (.bool true)) wc := ⟨true, Y', rfl, HM5.out, HF5.out, fun _ => ⟨by rw [HMM.out]; exact Nat.succ_pos _, by rw [HG0.out]; exact hfb⟩, fun h => (nomatch h)⟩
          have HPOST := Lib.hid hpost
          clear hpost hfb
          go_wp2
          go_ret
          exact HPOST.out
        | false =>
          have hfb : ¬ Fresh F s (cwt F.ws s) (a, g, (x : Int)) := fun h => by
            have := decide_eq_true (HFF.out.1 h)
            rw [HBB.out] at this
            cases this
          have HFB := Lib.hid hfb
          obtain ⟨_, ⟨_, _, _, _, z10, _, _⟩, zp⟩ := HM5.out.am.zs
          have kpop := HM5.out.pop HMM.out hK HRR.out
          have KPOP := Lib.hid kpop
          have hl1 := hlen_eq HM.out.am.heap
          have HL1 := Lib.hid hl1
          clear hfb kpop hl1
          go_wp2_with fail
          refine KPOP.out.mono ?_
          rintro e w9 ⟨p, pm, pq, L2, rfl, hg2, hpm2, am9, fr9⟩
          rw [HG0.out] at hg2
          obtain ⟨rfl, rfl, rfl⟩ := (by simpa using hg2 : a = p ∧ g = pm ∧ (x : Int) = pq)
          have hm9 : SM b w9 P F (Y'.heap' Y'.Ah k Y'.ch L2) s K := ⟨am9, fun hr => (HM5.out.hr hr).drop HMM.out hpm2 HFB.out, HM5.out.cb⟩
          have hf9 := HF5.out.trans fr9
          have hl9 := hlen_eq am9.heap
          have HM9 := Lib.hid hm9
          have HF9 := Lib.hid hf9
          have HL9 := Lib.hid hl9
          clear hm9 hf9 hl9 am9 fr9 hpm2 hg2
          go_wp2
          go_roundw
          case rel => exact ⟨rfl, _, HM9, HF9⟩
          case measure => rw [HL9.out, HL1.out, HMM.out]; exact Nat.lt_succ_self _
end
end Go.Proofs.Ytpoolpaagbeokaa.Ara
