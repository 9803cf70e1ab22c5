/- The walk of (*ara.Search).settle. -/
/- The walk of (*ara.Search).Step. -/
import Derived.Test.YtpoolpaagbeokaaVAraBest
import Derived.Test.YtpoolpaagbeokaaVAraAgain
import Derived.Test.YtpoolpaagbeokaaVMakers
import Derived.OrdersHeld
import Derived.Test.YtpoolpaagbeokaaVStarWait
namespace Go.Proofs.Ytpoolpaagbeokaa.Ara
open Go.RowKit Go.Proofs.Ytpoolpaagbeokaa NetLaw BellLaw StarLaw AraLaw Go.Proofs.Ytpoolpaagbeokaa.Net Go.Proofs.Ytpoolpaagbeokaa.Std Go.Proofs.Ytpoolpaagbeokaa.Flow
open Go.Proofs.Ytpoolpaagbeokaa.Heap (Kp Kp.refl Kp.below Kp.alloc Kp.drew Kp.setCell Kp.grown Kp.to fnOf)
open Go.Proofs.Ytpoolpaagbeokaa.HeapP (HeapAt d0 ltP ltP_ord)
set_option linter.unusedSimpArgs false
set_option linter.unusedVariables false
theorem infoRound1 : (Try.prog.info? 43).map (fun i => (i.size, i.bytes)) = some (5, 56) := by kernel_rfl
theorem infoRound2 : (Try.prog.info? 43).map (fun i => i.zero.map (fun z => z.cells.size)) = some (some 5) := by kernel_rfl
theorem infoRound : ∃ i z, Try.prog.info? 43 = some i ∧ i.zero = some z ∧ i.size = 5 ∧ i.bytes = 56 ∧ z.cells.size = 5 := by
  have h1 := infoRound1
  have h2 := infoRound2
  cases hi : Try.prog.info? 43 with
  | none => rw [hi] at h1; cases h1
  | some i =>
    rw [hi] at h1 h2
    simp only [Option.map_some, Option.some.injEq, Prod.mk.injEq] at h1 h2
    cases hz : i.zero with
    | none => rw [hz] at h2; cases h2
    | some z =>
      rw [hz] at h2
      exact ⟨i, z, rfl, hz, h1.1, h1.2, by simpa using h2⟩
/-- what settle leans on -/
structure PO (F : Fix) (fr : Nat) : Prop where
  cons : HeurLaw.Cons F.n F.tt F.l F.h
  fr : fr < F.n
  ws : ∀ w ∈ F.ws, 1 ≤ w.2 ∧ w.2 ≤ w.1
section
variable {F : Fix} {fr : Nat} {s : AS}
theorem SI.chain_ {N tt : Nat} {l : List E} {h : List Int} {ws : List (Int × Int)} (hS : AraLaw.SI N fr tt l h ws s) (hg : NetLaw.Good N l) (hc : ∀ e ∈ l, 1 ≤ e.2.2) (htt : tt < N) : dg s.C tt < far → ∃ cs, Ch s.P tt cs ∧ (∀ x ∈ cs, 0 ≤ x ∧ x < N) ∧ cs.length ≤ 64 := fun hf => by
  obtain ⟨V, hI, _, _⟩ := hS
  obtain ⟨cs, h1, h2, h3, _⟩ := hI.way hg hc (v := (tt : Int)) (by omega) (by omega) hf
  exact ⟨cs, h1, h2, h3⟩
theorem SI.paths {N tt : Nat} {l : List E} {h : List Int} {ws : List (Int × Int)} (hS : AraLaw.SI N fr tt l h ws s) : (∀ r ∈ s.rds, r.path.length ≤ 64) ∧ s.rds.length ≤ ws.length := by
  obtain ⟨V, _, _, hR⟩ := hS
  refine ⟨fun r hr => ?_, hR.len⟩
  rcases (hR.each r hr).1 with ⟨_, h⟩ | ⟨_, _, _, _, h⟩
  · rw [h]; simp
  · exact h
theorem SI.last_ (hO : FO F) (hP : PO F fr) (hS : AraLaw.SI F.n fr F.tt F.l F.h F.ws s) (e : s.rds.length + 1 = F.ws.length) (hf : Fin F.n F.tt (cwt F.ws s) F.h s) {w : List Int × Int} (hb : BestA F.n F.tt F.l s w) : AraLaw.SI F.n fr F.tt F.l F.h F.ws (told F.ws w s) :=
  Stl.keep hP.cons hO.gd hO.c1 hP.fr hO.tt hO.wl hP.ws (Stl.last e hf hb) hS
theorem SI.next_ (hO : FO F) (hP : PO F fr) (hS : AraLaw.SI F.n fr F.tt F.l F.h F.ws s) (e : s.rds.length + 1 < F.ws.length) (hf : Fin F.n F.tt (cwt F.ws s) F.h s) {w : List Int × Int} (hb : BestA F.n F.tt F.l s w) : AraLaw.SI F.n fr F.tt F.l F.h F.ws (AraLaw.again (told F.ws w s)) := by
  obtain ⟨h2, _, V, _, h4⟩ := SI.told_ hS hP.cons hO.gd hO.c1 hP.fr hO.tt hO.wl hP.ws (by omega) hf hb
  refine ⟨V, h4, fun _ v v0 v1 hd => ?_, ⟨h2.len, h2.run, h2.ld, h2.each, h2.wts, h2.mono, h2.dns⟩⟩
  have hd' : db (List.replicate s.dn.length false) v = true := hd
  rw [db_rep] at hd'
  cases hd'
end
section
variable {b : Nat} {w w' : World} {P : Nat} {F : Fix} {Y : Var} {s : AS} {K : Nat}
theorem SM.nx (h : SM b w P F Y s K) (hr : s.rds.length < F.ws.length) (hf : 0 < Y.m ∧ Fresh F s (cwt F.ws s) (Y.L.getD 0 d0)) : NxA F.n (cwt F.ws s) F.h s (Y.L.getD 0 d0).2.2 ∧ Y.L.getD 0 d0 = kyA (cwt F.ws s) F.h s (Y.L.getD 0 d0).2.2 :=
  (h.hr hr).next h.am.hp h.am.heap.len hf.1 hf.2
theorem fresh_yes {r : Bool} (h : SM b w P F Y s K) (hr : s.rds.length < F.ws.length) (h2 : r = false → Y.m = 0) (ho : ∃ v, AraLaw.Op F.n s v) : r = true := by
  cases r with
  | true => rfl
  | false => obtain ⟨v, hv⟩ := ho; exact absurd hv ((h.hr hr).none h.am.heap.len (h2 rfl) v)
theorem fresh_no {r : Bool} (h : SM b w P F Y s K) (hr : s.rds.length < F.ws.length) (h1 : r = true → 0 < Y.m ∧ Fresh F s (cwt F.ws s) (Y.L.getD 0 d0)) (ho : ¬ ∃ v, AraLaw.Op F.n s v) : r = false := by
  cases r with
  | false => rfl
  | true => exact absurd ⟨_, (h.nx hr (h1 rfl)).1.1⟩ ho
/-- how many rounds were told -/
def rlen (w : World) (P : Nat) : Nat := match w.cell? ⟨P, 12, none⟩ with | some (.slice _ n _) => n | _ => 0
theorem rlen_eq (h : AM b w P F Y s) : rlen w P = s.rds.length := by
  unfold rlen
  rw [h.zs.2.1.2.2.2.2.2.2]
  exact h.kr_
theorem AM.four (h : AM b w P F Y s) (ht : F.tt < F.n) {ct : Int} (hc : dg s.C F.tt = ct) : w.cell? ⟨P, 3, none⟩ = some (.int .i64 F.tt) ∧ w.cell? ⟨P, 6, none⟩ = some (.slice (some ⟨F.SC, 0, none⟩) F.n F.n) ∧ w.cell? ⟨P, 10, none⟩ = some (.pointer (some ⟨F.H, 0, none⟩)) ∧ w.cell? ⟨F.SC, F.tt, none⟩ = some (.int .i64 ct) := by
  obtain ⟨⟨_, _, _, z3, _, _⟩, ⟨z6, _, _, _, z10, _, _⟩, _⟩ := h.zs
  obtain ⟨c1, _⟩ := h.cellC ht
  rw [hc] at c1
  exact ⟨z3, z6, z10, c1⟩
/-- what a new round needs -/
theorem AM.five (h : AM b w P F Y s) (hr : s.rds.length < F.ws.length) : ∃ bw ow, F.AW = some ⟨bw, ow, none⟩ ∧ w.cell? ⟨P, 5, none⟩ = some (.slice (some ⟨bw, ow, none⟩) F.ws.length F.cW) ∧ w.cell? ⟨P, 11, none⟩ = some (.int .i64 s.sp) ∧ w.cell? ⟨P, 12, none⟩ = some (.slice Y.AR Y.kr Y.cr) ∧ w.cell? ⟨bw, ow + Y.kr * 2, none⟩ = some (.int .i64 (cwt F.ws s).1) ∧ w.cell? ⟨bw, ow + Y.kr * 2 + 1, none⟩ = some (.int .i64 (cwt F.ws s).2) := by
  obtain ⟨⟨_, _, _, _, _, z5⟩, ⟨_, _, _, _, _, z11, z12⟩, _⟩ := h.zs
  obtain ⟨bw, ow, e, _, x0, x1⟩ := h.weight hr
  rw [← h.kr_] at x0 x1
  rw [e] at z5
  exact ⟨bw, ow, e, z5, z11, z12, x0, x1⟩
/-- the same while the rounds' row grows -/
theorem AM.five_grown (h : AM b w P F Y s) (hr : s.rds.length < F.ws.length) (hg : w.grownBy w' (Value.slice Y.AR Y.kr Y.cr).ownBlock) {bw ow : Nat} (he : F.AW = some ⟨bw, ow, none⟩) : (w'.cell? ⟨P, 5, none⟩ = some (.slice (some ⟨bw, ow, none⟩) F.ws.length F.cW) ∧ w'.cell? ⟨P, 11, none⟩ = some (.int .i64 s.sp) ∧ w'.cell? ⟨P, 12, none⟩ = some (.slice Y.AR Y.kr Y.cr) ∧ w'.cell? ⟨bw, ow + Y.kr * 2, none⟩ = some (.int .i64 (cwt F.ws s).1) ∧ w'.cell? ⟨bw, ow + Y.kr * 2 + 1, none⟩ = some (.int .i64 (cwt F.ws s).2)) ∧ w'.frozen? ⟨P, 12, none⟩ = false ∧ P < w'.heap.size := by
  have hz := blk_grown h.z hg (h.rows.ne_ h.z (by decide))
  have hw := h.wt.kept hg (own_apart h.wt h.rows (by decide))
  have hc : cwt F.ws s = F.ws[s.rds.length] := by unfold cwt; rw [List.getD_eq_getElem?_getD, List.getElem?_eq_getElem hr]; rfl
  obtain ⟨bw', ow', hA, _, hcc⟩ := hw.sl.2 (by omega)
  rw [he] at hA
  injection hA with hA
  injection hA with e1 e2 _
  subst e1 e2
  rw [h.kr_, hc]
  refine ⟨⟨?_, ?_, ?_, hcc _ hr 0 (by omega), hcc _ hr 1 (by omega)⟩, blk_free hz 12, lt_of_block hz⟩
  · rw [blk_cell hz, ← he]; rfl
  · rw [blk_cell hz]; rfl
  · rw [blk_cell hz, ← h.kr_]; rfl
theorem news5 {w : World} {g : Nat} {x : RE} (hg : w.heap[g]? = some (.cells #[.int .i64 x.num, .int .i64 x.den, .slice x.A x.k x.c, .int .i64 x.cost, .int .i64 x.done] 43 (0, 0))) : ∀ j, j < 5 → w.cell? ⟨g, j, none⟩ = some (Ara.cr x j) := by
  intro j hj
  rw [blk_cell hg]
  match j, hj with
  | 0, _ => rfl
  | 1, _ => rfl
  | 2, _ => rfl
  | 3, _ => rfl
  | 4, _ => rfl
/-- a round is told, in memory -/
theorem AM.tell (h : AM b w P F Y s) {W W' : World} {A9 : Option Addr} {k9 c9 : Nat} {co9 : Int} {path : List Int} {A' : Option Addr} {c' : Nat} (hb : Below w.heap.size w W) (ho : Own W w.heap.size 3 1 ci (.slice A9 k9 c9) path)
    (hg : W.grownBy W' (Value.slice Y.AR Y.kr Y.cr).ownBlock) (hn : Own W' b 43 5 Ara.cr (.slice A' (Y.kr + 1) c') (Y.RS ++ [(⟨(cwt F.ws s).1, (cwt F.ws s).2, A9, k9, c9, co9, s.sp, path⟩ : RE)])) (hat : (Value.slice A' (Y.kr + 1) c').ownBlock = (Value.slice Y.AR Y.kr Y.cr).ownBlock ∨ (Value.slice A' (Y.kr + 1) c').ownBlock = some W.heap.size) :
    AM b (W'.setCell ⟨P, 12, none⟩ (.slice A' (Y.kr + 1) c')) P F (Y.rows' A' (Y.kr + 1) c' (Y.RS ++ [(⟨(cwt F.ws s).1, (cwt F.ws s).2, A9, k9, c9, co9, s.sp, path⟩ : RE)])) (told F.ws (path, co9) s) ∧ Fr P F Y (Y.rows' A' (Y.kr + 1) c' (Y.RS ++ [(⟨(cwt F.ws s).1, (cwt F.ws s).2, A9, k9, c9, co9, s.sp, path⟩ : RE)])) w (W'.setCell ⟨P, 12, none⟩ (.slice A' (Y.kr + 1) c')) := by
  have hx : ∀ g, ob A9 = some g → w.heap.size ≤ g := fun g e => (ho.base_ g ((ob_ ..).trans e)).1
  have hh := h.keep hb
  have h1 := hh.round hg hn hat (ho.mono h.size) ⟨fun e => by have := hx _ e; have := (h.cost.base_ F.SC rfl).2; omega, fun e => by have := hx _ e; have := (h.pred.base_ F.SP rfl).2; omega⟩ (fun g hgl e => by have := hx _ e; have := (h.late.base_ g ((ob_ ..).trans hgl)).2; omega)
  exact ⟨h1, Fr.round hb.size hg hb hat hx⟩
/-- what waits on top is as it was put, while it is not over -/
def Top (F : Fix) (Y : Var) (s : AS) : Prop := s.rds.length < F.ws.length → 0 < Y.m ∧ Fresh F s (cwt F.ws s) (Y.L.getD 0 d0)
/-- what settle leaves -/
def SettleSays (b : Nat) (w : World) (P : Nat) (F : Fix) (Y : Var) (s : AS) (K : Nat) (e : Ending) (w' : World) : Prop :=
  (∃ r, e = .returned r) ∧ ∃ s' Y' K', Stl F.n F.tt F.l F.h F.ws s s' ∧ SM b w' P F Y' s' K' ∧ Fr P F Y Y' w w' ∧ K' ≤ K + 64 ∧ Top F Y' s'
set_option maxRecDepth 100000 in
set_option maxHeartbeats 16000000 in
theorem settle_any {fr : Nat} (hO : FO F) (hP : PO F fr) (h : SM b w P F Y s K) (hS : AraLaw.SI F.n fr F.tt F.l F.h F.ws s) (hK : K ≤ 10000000) :
    Calls Try.prog 43 #[.pointer (some ⟨P, 0, none⟩)] w fun e w' => SettleSays b w P F Y s K e w' := by
  obtain ⟨i0, z0, hi, hz0, hz1, hz2, hz3⟩ := infoRound
  have SM0 := Lib.hid h
  have SI0 := Lib.hid hS
  have HOO := Lib.hid hO
  have HPP := Lib.hid hP
  clear h hS hO hP
  go_enter Try.func43, Try.ntmps43
  go_wp2
  go_loopw [2] (fun _ wr => ∃ s1 Y1 K1, Hid (SM b wr P F Y1 s1 K1) ∧ Hid (Fr P F Y Y1 w wr) ∧ Hid (AraLaw.SI F.n fr F.tt F.l F.h F.ws s1) ∧ K1 ≤ K + 64 ∧ Hid (∀ s', Stl F.n F.tt F.l F.h F.ws s1 s' → Stl F.n F.tt F.l F.h F.ws s s')) (fun _ wr => F.ws.length - rlen wr P)
  case atStart => exact ⟨s, Y, K, SM0, Lib.hid (Fr.refl _ _ _ _), SI0, by omega, Lib.hid (fun _ h => h)⟩
  case round =>
    obtain ⟨s1, Y1, K1, HM, HF, HSI, hK1, HST⟩ := hrel
    clear SM0 SI0
    have kov := isover_any HM.out.am
    have KOV := Lib.hid kov
    have HRL := Lib.hid (rlen_eq HM.out.am)
    clear kov
    go_wp2_with fail
    refine KOV.out.mono ?_
    rintro e w2 ⟨rfl, kk, rfl⟩
    have HM2 := Lib.hid (HM.out.keep (below_drewN (Below.refl _ _) kk))
    have HF2 := Lib.hid (HF.out.drewN kk)
    clear HM HF KOV
    generalize wr.drewN kk = w2 at HM2 HF2 ⊢
    by_cases hov : s1.rds.length = F.ws.length
    · have hd : decide (s1.rds.length = F.ws.length) = true := decide_eq_true hov
      have hfin : SettleSays b w P F Y s K (.returned (.tuple #[])) w2 := ⟨⟨_, rfl⟩, s1, Y1, K1, HST.out _ (Stl.over hov), HM2.out, HF2.out, hK1, fun h => absurd h (by omega)⟩
      have HFIN := Lib.hid hfin
      clear hfin hov
      rw [hd]
      go_wp2
      exact bodyPost_end (v := .tuple #[]) (by simp [results, Try.results43, go_sem]) rfl HFIN.out
    · have hd : decide (s1.rds.length = F.ws.length) = false := decide_eq_false hov
      have hlt : s1.rds.length < F.ws.length := by have := HSI.out; obtain ⟨_, _, _, hR⟩ := this; have := hR.len; omega
      have HLT := Lib.hid hlt
      rw [hd]
      clear hov hd hlt
      obtain ⟨ct, hct⟩ : ∃ ct, dg s1.C (F.tt : Int) = ct := ⟨_, rfl⟩
      obtain ⟨kt, hkt⟩ : ∃ kt, (cwt F.ws s1).2 * dg s1.C (F.tt : Int) + (cwt F.ws s1).1 * dg F.h (F.tt : Int) = kt := ⟨_, rfl⟩
      have htn : F.tt < F.n := HOO.out.tt
      have kfr := fresh_any HOO.out (HM2.out.keep (Below.refl _ _).drew) HLT.out (by omega)
      have kky := fun (W : World) (Y' : Var) (K' : Nat) (h : SM b W P F Y' s1 K') => key_any h.am HLT.out (HOO.out.wt HLT.out) htn (h.cb F.tt (by omega) (by omega)) (HOO.out.hh F.tt (by omega) (by omega))
      rw [hkt] at kky
      have hfo := fun (W : World) (Y' : Var) (h : AM b W P F Y' s1) => h.four htn hct
      have HCTT := Lib.hid hct
      have HKT : Hid ((kyA (cwt F.ws s1) F.h s1 F.tt).1 = kt) := Lib.hid hkt
      have s0 := hfo w2.drew Y1 (HM2.out.keep (Below.refl _ _).drew).am
      have KFR := Lib.hid kfr
      have KKY := Lib.hid kky
      have HFO := Lib.hid hfo
      have ztn : (F.tt : Int) < (F.n : Int) := by omega
      clear kfr kky hfo hct hkt
      go_upto_region 1 with fail
      go_cut [34] from 5 to 35 (fun s34 wx => ∃ bb Y2, s34 = .bool bb ∧ Hid (SM b wx P F Y2 s1 K1) ∧ Hid (Fr P F Y Y2 w wx) ∧ Hid ((bb = true → Wt F.n F.tt (cwt F.ws s1) F.h s1 ∧ (0 < Y2.m ∧ Fresh F s1 (cwt F.ws s1) (Y2.L.getD 0 d0))) ∧ (bb = false → Fin F.n F.tt (cwt F.ws s1) F.h s1)))
      case first =>
        by_cases hF : ∃ v, AraLaw.Op F.n s1 v
        · have HF := Lib.hid hF
          clear hF
          by_cases hct : ct = 1099511627776
          · have HCT := Lib.hid hct
            have hcb : (ct == 1099511627776) = true := by rw [hct]; rfl
            clear hct
            refine Go.wp_region_held_drew (S := (fun w' => w'.cell? ⟨P, 3, none⟩ = some (.int .i64 F.tt) ∧ w'.cell? ⟨P, 6, none⟩ = some (.slice (some ⟨F.SC, 0, none⟩) F.n F.n) ∧ w'.cell? ⟨P, 10, none⟩ = some (.pointer (some ⟨F.H, 0, none⟩)) ∧ w'.cell? ⟨F.SC, F.tt, none⟩ = some (.int .i64 ct))) (by kernel_rfl) s0 (fun hHeld => ?_)
            refine Go.wpAnyH_take (fuel := 29) (i := 0) (oi := _) (v := ?_) rfl (by kernel_rfl) (by kernel_rfl) (by kernel_rfl) (fun _ _ _ h => h) (Or.inl ⟨by rfl, ?_⟩) (by assumption) ?_
            rotate_left
            · (intro w hSw; (try dsimp only at hSw); go_simp)
              try with_reducible rfl
            try simp only [Act.put, List.getElem_toArray, List.getElem_cons_succ, List.getElem_cons_zero, List.setIfInBounds_toArray, List.set_cons_zero, List.set_cons_succ]
            refine Go.wpAnyH_ready (fuel := 28) (rs := [1]) (by kernel_rfl) (by simp) ?_
            refine Go.AllReadyH.cons (o := _) rfl (fun K hK => ?_) Go.AllReadyH.nil
            have HKX := Lib.hid hK
            clear hK
            go_simp
            go_at_call 57
            refine KFR.out.mono ?_
            rintro e wf ⟨r, Yf, rfl, smf, frf, hr1, hr2⟩
            have k1s := HFO.out _ _ smf.am
            obtain rfl := (fresh_yes smf HLT.out hr2 HF.out)
            have SMF := Lib.hid smf
            have FRF := Lib.hid (HF2.out.drew.trans frf)
            have HR1 := Lib.hid hr1
            have HR2 := Lib.hid hr2
            clear smf frf hr1 hr2
            refine HKX.out.out _ _ k1s (fun hHeld => ?_)
            clear HKX
            try simp only [Act.put, List.getElem_toArray, List.getElem_cons_succ, List.getElem_cons_zero, List.setIfInBounds_toArray, List.set_cons_zero, List.set_cons_succ]
            refine Go.wpAnyH_take (fuel := 27) (i := 2) (oi := _) (v := ?_) rfl (by kernel_rfl) (by kernel_rfl) (by kernel_rfl) (fun _ _ _ h => h) (Or.inl ⟨by rfl, ?_⟩) (by assumption) ?_
            rotate_left
            · (intro w hSw; (try dsimp only at hSw); go_simp)
              try with_reducible rfl
            try simp only [Act.put, List.getElem_toArray, List.getElem_cons_succ, List.getElem_cons_zero, List.setIfInBounds_toArray, List.set_cons_zero, List.set_cons_succ]
            refine Go.wpAnyH_take (fuel := 26) (i := 3) (oi := _) (v := ?_) rfl (by kernel_rfl) (by kernel_rfl) (by kernel_rfl) (fun _ _ _ h => h) (Or.inl ⟨by rfl, ?_⟩) (by assumption) ?_
            rotate_left
            · (intro w hSw; (try dsimp only at hSw); go_simp)
              try with_reducible rfl
            try simp only [Act.put, List.getElem_toArray, List.getElem_cons_succ, List.getElem_cons_zero, List.setIfInBounds_toArray, List.set_cons_zero, List.set_cons_succ]
            refine Go.wpAnyH_take (fuel := 25) (i := 4) (oi := _) (v := ?_) rfl (by kernel_rfl) (by kernel_rfl) (by kernel_rfl) (fun _ _ _ h => h) (Or.inl ⟨by rfl, ?_⟩) (by assumption) ?_
            rotate_left
            · (intro w hSw; (try dsimp only at hSw); go_simp)
              try with_reducible rfl
            try simp only [Act.put, List.getElem_toArray, List.getElem_cons_succ, List.getElem_cons_zero, List.setIfInBounds_toArray, List.set_cons_zero, List.set_cons_succ]
            refine Go.wpAnyH_take (fuel := 24) (i := 5) (oi := _) (v := ?_) rfl (by kernel_rfl) (by kernel_rfl) (by kernel_rfl) (fun _ _ _ h => h) (Or.inl ⟨by rfl, ?_⟩) (by assumption) ?_
            rotate_left
            · (intro w hSw; (try dsimp only at hSw); go_simp)
              try with_reducible rfl
            try simp only [Act.put, List.getElem_toArray, List.getElem_cons_succ, List.getElem_cons_zero, List.setIfInBounds_toArray, List.set_cons_zero, List.set_cons_succ]
            refine Go.wpAnyH_take (fuel := 23) (i := 6) (oi := _) (v := ?_) rfl (by kernel_rfl) (by kernel_rfl) (by kernel_rfl) (fun _ _ _ h => h) (Or.inl ⟨by rfl, ?_⟩) (by assumption) ?_
            rotate_left
            · (intro w hSw; (try dsimp only at hSw); go_simp)
              try with_reducible rfl
            try simp only [Act.put, List.getElem_toArray, List.getElem_cons_succ, List.getElem_cons_zero, List.setIfInBounds_toArray, List.set_cons_zero, List.set_cons_succ]
            refine Go.wpAnyH_take (fuel := 22) (i := 7) (oi := _) (v := ?_) rfl (by kernel_rfl) (by kernel_rfl) (by kernel_rfl) (fun _ _ _ h => h) (Or.inl ⟨by rfl, ?_⟩) (by assumption) ?_
            rotate_left
            · (intro w hSw; (try dsimp only at hSw); go_simp)
              try with_reducible rfl
            try simp only [Act.put, List.getElem_toArray, List.getElem_cons_succ, List.getElem_cons_zero, List.setIfInBounds_toArray, List.set_cons_zero, List.set_cons_succ]
            refine Go.wpAnyH_take (fuel := 21) (i := 8) (oi := _) (v := ?_) rfl (by kernel_rfl) (by kernel_rfl) (by kernel_rfl) (fun _ _ _ h => h) (Or.inl ⟨by rfl, ?_⟩) (by assumption) ?_
            rotate_left
            · (intro w hSw; (try dsimp only at hSw); go_simp)
              try with_reducible rfl
            try simp only [Act.put, List.getElem_toArray, List.getElem_cons_succ, List.getElem_cons_zero, List.setIfInBounds_toArray, List.set_cons_zero, List.set_cons_succ]
            refine Go.wpAnyH_take (fuel := 20) (i := 9) (oi := _) (v := ?_) rfl (by kernel_rfl) (by kernel_rfl) (by kernel_rfl) (fun _ _ _ h => h) (Or.inl ⟨by rfl, ?_⟩) (by assumption) ?_
            rotate_left
            · (intro w hSw; (try dsimp only at hSw); go_simp)
              try with_reducible rfl
            try simp only [Act.put, List.getElem_toArray, List.getElem_cons_succ, List.getElem_cons_zero, List.setIfInBounds_toArray, List.set_cons_zero, List.set_cons_succ]
            refine Go.wpAnyH_take (fuel := 19) (i := 10) (oi := _) (v := ?_) rfl (by kernel_rfl) (by kernel_rfl) (by kernel_rfl) (fun _ _ _ h => h) (Or.inl ⟨by rfl, ?_⟩) (by assumption) ?_
            rotate_left
            · (intro w hSw; (try dsimp only at hSw); go_simp)
              try with_reducible rfl
            try simp only [Act.put, List.getElem_toArray, List.getElem_cons_succ, List.getElem_cons_zero, List.setIfInBounds_toArray, List.set_cons_zero, List.set_cons_succ]
            refine Go.wpAnyH_take (fuel := 18) (i := 11) (oi := _) (v := ?_) rfl (by kernel_rfl) (by kernel_rfl) (by kernel_rfl) (fun _ _ _ h => h) (Or.inl ⟨by rfl, ?_⟩) (by assumption) ?_
            rotate_left
            · (intro w hSw; (try dsimp only at hSw); go_simp)
              try with_reducible rfl
            try simp only [Act.put, List.getElem_toArray, List.getElem_cons_succ, List.getElem_cons_zero, List.setIfInBounds_toArray, List.set_cons_zero, List.set_cons_succ]
            refine Go.wpAnyH_take (fuel := 17) (i := 12) (oi := _) (v := ?_) rfl (by kernel_rfl) (by kernel_rfl) (by kernel_rfl) (fun _ _ _ h => h) (Or.inl ⟨by rfl, ?_⟩) (by assumption) ?_
            rotate_left
            · (intro w hSw; (try dsimp only at hSw); go_simp)
              try with_reducible rfl
            try simp only [Act.put, List.getElem_toArray, List.getElem_cons_succ, List.getElem_cons_zero, List.setIfInBounds_toArray, List.set_cons_zero, List.set_cons_succ]
            refine Go.wpAnyH_take (fuel := 16) (i := 13) (oi := _) (v := ?_) rfl (by kernel_rfl) (by kernel_rfl) (by kernel_rfl) (fun _ _ _ h => h) (Or.inl ⟨by rfl, ?_⟩) (by assumption) ?_
            rotate_left
            · (intro w hSw; (try dsimp only at hSw); go_simp)
              try with_reducible rfl
            try simp only [Act.put, List.getElem_toArray, List.getElem_cons_succ, List.getElem_cons_zero, List.setIfInBounds_toArray, List.set_cons_zero, List.set_cons_succ]
            refine Go.wpAnyH_take (fuel := 15) (i := 14) (oi := _) (v := ?_) rfl (by kernel_rfl) (by kernel_rfl) (by kernel_rfl) (fun _ _ _ h => h) (Or.inl ⟨by rfl, ?_⟩) (by assumption) ?_
            rotate_left
            · (intro w hSw; (try dsimp only at hSw); go_simp)
              try with_reducible rfl
            try simp only [Act.put, List.getElem_toArray, List.getElem_cons_succ, List.getElem_cons_zero, List.setIfInBounds_toArray, List.set_cons_zero, List.set_cons_succ]
            refine Go.wpAnyH_take (fuel := 14) (i := 15) (oi := _) (v := undef) rfl (by kernel_rfl) (by kernel_rfl) (by kernel_rfl) (fun _ _ _ h => h) (Or.inr ⟨by rfl, rfl⟩) (by assumption) ?_
            try simp only [Act.put, List.getElem_toArray, List.getElem_cons_succ, List.getElem_cons_zero, List.setIfInBounds_toArray, List.set_cons_zero, List.set_cons_succ]
            refine Go.wpAnyH_take (fuel := 13) (i := 16) (oi := _) (v := undef) rfl (by kernel_rfl) (by kernel_rfl) (by kernel_rfl) (fun _ _ _ h => h) (Or.inr ⟨by rfl, rfl⟩) (by assumption) ?_
            try simp only [Act.put, List.getElem_toArray, List.getElem_cons_succ, List.getElem_cons_zero, List.setIfInBounds_toArray, List.set_cons_zero, List.set_cons_succ]
            refine Go.wpAnyH_take (fuel := 12) (i := 17) (oi := _) (v := undef) rfl (by kernel_rfl) (by kernel_rfl) (by kernel_rfl) (fun _ _ _ h => h) (Or.inr ⟨by rfl, rfl⟩) (by assumption) ?_
            try simp only [Act.put, List.getElem_toArray, List.getElem_cons_succ, List.getElem_cons_zero, List.setIfInBounds_toArray, List.set_cons_zero, List.set_cons_succ]
            refine Go.wpAnyH_take (fuel := 11) (i := 18) (oi := _) (v := undef) rfl (by kernel_rfl) (by kernel_rfl) (by kernel_rfl) (fun _ _ _ h => h) (Or.inr ⟨by rfl, rfl⟩) (by assumption) ?_
            try simp only [Act.put, List.getElem_toArray, List.getElem_cons_succ, List.getElem_cons_zero, List.setIfInBounds_toArray, List.set_cons_zero, List.set_cons_succ]
            refine Go.wpAnyH_take (fuel := 10) (i := 19) (oi := _) (v := undef) rfl (by kernel_rfl) (by kernel_rfl) (by kernel_rfl) (fun _ _ _ h => h) (Or.inr ⟨by rfl, rfl⟩) (by assumption) ?_
            try simp only [Act.put, List.getElem_toArray, List.getElem_cons_succ, List.getElem_cons_zero, List.setIfInBounds_toArray, List.set_cons_zero, List.set_cons_succ]
            refine Go.wpAnyH_take (fuel := 9) (i := 20) (oi := _) (v := undef) rfl (by kernel_rfl) (by kernel_rfl) (by kernel_rfl) (fun _ _ _ h => h) (Or.inr ⟨by rfl, rfl⟩) (by assumption) ?_
            try simp only [Act.put, List.getElem_toArray, List.getElem_cons_succ, List.getElem_cons_zero, List.setIfInBounds_toArray, List.set_cons_zero, List.set_cons_succ]
            refine Go.wpAnyH_take (fuel := 8) (i := 21) (oi := _) (v := undef) rfl (by kernel_rfl) (by kernel_rfl) (by kernel_rfl) (fun _ _ _ h => h) (Or.inr ⟨by rfl, rfl⟩) (by assumption) ?_
            try simp only [Act.put, List.getElem_toArray, List.getElem_cons_succ, List.getElem_cons_zero, List.setIfInBounds_toArray, List.set_cons_zero, List.set_cons_succ]
            refine Go.wpAnyH_take (fuel := 7) (i := 22) (oi := _) (v := undef) rfl (by kernel_rfl) (by kernel_rfl) (by kernel_rfl) (fun _ _ _ h => h) (Or.inr ⟨by rfl, rfl⟩) (by assumption) ?_
            try simp only [Act.put, List.getElem_toArray, List.getElem_cons_succ, List.getElem_cons_zero, List.setIfInBounds_toArray, List.set_cons_zero, List.set_cons_succ]
            refine Go.wpAnyH_take (fuel := 6) (i := 23) (oi := _) (v := undef) rfl (by kernel_rfl) (by kernel_rfl) (by kernel_rfl) (fun _ _ _ h => h) (Or.inr ⟨by rfl, rfl⟩) (by assumption) ?_
            try simp only [Act.put, List.getElem_toArray, List.getElem_cons_succ, List.getElem_cons_zero, List.setIfInBounds_toArray, List.set_cons_zero, List.set_cons_succ]
            refine Go.wpAnyH_take (fuel := 5) (i := 24) (oi := _) (v := undef) rfl (by kernel_rfl) (by kernel_rfl) (by kernel_rfl) (fun _ _ _ h => h) (Or.inr ⟨by rfl, rfl⟩) (by assumption) ?_
            try simp only [Act.put, List.getElem_toArray, List.getElem_cons_succ, List.getElem_cons_zero, List.setIfInBounds_toArray, List.set_cons_zero, List.set_cons_succ]
            refine Go.wpAnyH_take (fuel := 4) (i := 25) (oi := _) (v := undef) rfl (by kernel_rfl) (by kernel_rfl) (by kernel_rfl) (fun _ _ _ h => h) (Or.inr ⟨by rfl, rfl⟩) (by assumption) ?_
            try simp only [Act.put, List.getElem_toArray, List.getElem_cons_succ, List.getElem_cons_zero, List.setIfInBounds_toArray, List.set_cons_zero, List.set_cons_succ]
            refine Go.wpAnyH_take (fuel := 3) (i := 26) (oi := _) (v := undef) rfl (by kernel_rfl) (by kernel_rfl) (by kernel_rfl) (fun _ _ _ h => h) (Or.inr ⟨by rfl, rfl⟩) (by assumption) ?_
            try simp only [Act.put, List.getElem_toArray, List.getElem_cons_succ, List.getElem_cons_zero, List.setIfInBounds_toArray, List.set_cons_zero, List.set_cons_succ]
            refine Go.wpAnyH_take (fuel := 2) (i := 27) (oi := _) (v := undef) rfl (by kernel_rfl) (by kernel_rfl) (by kernel_rfl) (fun _ _ _ h => h) (Or.inr ⟨by rfl, rfl⟩) (by assumption) ?_
            try simp only [Act.put, List.getElem_toArray, List.getElem_cons_succ, List.getElem_cons_zero, List.setIfInBounds_toArray, List.set_cons_zero, List.set_cons_succ]
            refine Go.wpAnyH_take (fuel := 1) (i := 28) (oi := _) (v := ?_) rfl (by kernel_rfl) (by kernel_rfl) (by kernel_rfl) (fun _ _ _ h => h) (Or.inl ⟨by rfl, ?_⟩) (by assumption) ?_
            rotate_left
            · (intro w hSw; (try dsimp only at hSw); go_simp)
              try with_reducible rfl
            try simp only [Act.put, List.getElem_toArray, List.getElem_cons_succ, List.getElem_cons_zero, List.setIfInBounds_toArray, List.set_cons_zero, List.set_cons_succ]
            refine Go.wpAnyH_take (fuel := 0) (i := 29) (oi := _) (v := ?_) rfl (by kernel_rfl) (by kernel_rfl) (by kernel_rfl) (fun _ _ _ h => h) (Or.inl ⟨by rfl, ?_⟩) (by assumption) ?_
            rotate_left
            · (intro w hSw; (try dsimp only at hSw); go_simp)
              try with_reducible rfl
            try simp only [Act.put, List.getElem_toArray, List.getElem_cons_succ, List.getElem_cons_zero, List.setIfInBounds_toArray, List.set_cons_zero, List.set_cons_succ]
            refine Go.wpAnyH_done (by kernel_rfl) ?_ _
            go_wp2
            go_meet
            exact ⟨true, Yf, rfl, SMF, FRF, Lib.hid ⟨fun _ => ⟨⟨_, (SMF.out.nx HLT.out (HR1.out (by simp))).1, .inl (by rw [HCTT.out]; exact HCT.out)⟩, HR1.out (by simp)⟩, fun h => (nomatch h)⟩⟩
          · have HCT := Lib.hid hct
            have hcb : (ct == 1099511627776) = false := by simpa using hct
            clear hct
            by_cases hK : ∃ v, NxA F.n (cwt F.ws s1) F.h s1 v ∧ (kyA (cwt F.ws s1) F.h s1 v).1 < kt
            · have HK := Lib.hid hK
              clear hK
              refine Go.wp_region_held_drew (S := (fun w' => w'.cell? ⟨P, 3, none⟩ = some (.int .i64 F.tt) ∧ w'.cell? ⟨P, 6, none⟩ = some (.slice (some ⟨F.SC, 0, none⟩) F.n F.n) ∧ w'.cell? ⟨P, 10, none⟩ = some (.pointer (some ⟨F.H, 0, none⟩)) ∧ w'.cell? ⟨F.SC, F.tt, none⟩ = some (.int .i64 ct))) (by kernel_rfl) s0 (fun hHeld => ?_)
              refine Go.wpAnyH_take (fuel := 29) (i := 0) (oi := _) (v := ?_) rfl (by kernel_rfl) (by kernel_rfl) (by kernel_rfl) (fun _ _ _ h => h) (Or.inl ⟨by rfl, ?_⟩) (by assumption) ?_
              rotate_left
              · (intro w hSw; (try dsimp only at hSw); go_simp)
                try with_reducible rfl
              try simp only [Act.put, List.getElem_toArray, List.getElem_cons_succ, List.getElem_cons_zero, List.setIfInBounds_toArray, List.set_cons_zero, List.set_cons_succ]
              refine Go.wpAnyH_ready (fuel := 28) (rs := [1]) (by kernel_rfl) (by simp) ?_
              refine Go.AllReadyH.cons (o := _) rfl (fun K hK => ?_) Go.AllReadyH.nil
              have HKX := Lib.hid hK
              clear hK
              go_simp
              go_at_call 57
              refine KFR.out.mono ?_
              rintro e wf ⟨r, Yf, rfl, smf, frf, hr1, hr2⟩
              have k1s := HFO.out _ _ smf.am
              obtain rfl := (fresh_yes smf HLT.out hr2 HF.out)
              have SMF := Lib.hid smf
              have FRF := Lib.hid (HF2.out.drew.trans frf)
              have HR1 := Lib.hid hr1
              have HR2 := Lib.hid hr2
              clear smf frf hr1 hr2
              refine HKX.out.out _ _ k1s (fun hHeld => ?_)
              clear HKX
              try simp only [Act.put, List.getElem_toArray, List.getElem_cons_succ, List.getElem_cons_zero, List.setIfInBounds_toArray, List.set_cons_zero, List.set_cons_succ]
              refine Go.wpAnyH_take (fuel := 27) (i := 2) (oi := _) (v := ?_) rfl (by kernel_rfl) (by kernel_rfl) (by kernel_rfl) (fun _ _ _ h => h) (Or.inl ⟨by rfl, ?_⟩) (by assumption) ?_
              rotate_left
              · (intro w hSw; (try dsimp only at hSw); go_simp)
                try with_reducible rfl
              try simp only [Act.put, List.getElem_toArray, List.getElem_cons_succ, List.getElem_cons_zero, List.setIfInBounds_toArray, List.set_cons_zero, List.set_cons_succ]
              refine Go.wpAnyH_take (fuel := 26) (i := 3) (oi := _) (v := ?_) rfl (by kernel_rfl) (by kernel_rfl) (by kernel_rfl) (fun _ _ _ h => h) (Or.inl ⟨by rfl, ?_⟩) (by assumption) ?_
              rotate_left
              · (intro w hSw; (try dsimp only at hSw); go_simp)
                try with_reducible rfl
              try simp only [Act.put, List.getElem_toArray, List.getElem_cons_succ, List.getElem_cons_zero, List.setIfInBounds_toArray, List.set_cons_zero, List.set_cons_succ]
              refine Go.wpAnyH_take (fuel := 25) (i := 4) (oi := _) (v := ?_) rfl (by kernel_rfl) (by kernel_rfl) (by kernel_rfl) (fun _ _ _ h => h) (Or.inl ⟨by rfl, ?_⟩) (by assumption) ?_
              rotate_left
              · (intro w hSw; (try dsimp only at hSw); go_simp)
                try with_reducible rfl
              try simp only [Act.put, List.getElem_toArray, List.getElem_cons_succ, List.getElem_cons_zero, List.setIfInBounds_toArray, List.set_cons_zero, List.set_cons_succ]
              refine Go.wpAnyH_take (fuel := 24) (i := 5) (oi := _) (v := ?_) rfl (by kernel_rfl) (by kernel_rfl) (by kernel_rfl) (fun _ _ _ h => h) (Or.inl ⟨by rfl, ?_⟩) (by assumption) ?_
              rotate_left
              · (intro w hSw; (try dsimp only at hSw); go_simp)
                try with_reducible rfl
              try simp only [Act.put, List.getElem_toArray, List.getElem_cons_succ, List.getElem_cons_zero, List.setIfInBounds_toArray, List.set_cons_zero, List.set_cons_succ]
              refine Go.wpAnyH_take (fuel := 23) (i := 6) (oi := _) (v := ?_) rfl (by kernel_rfl) (by kernel_rfl) (by kernel_rfl) (fun _ _ _ h => h) (Or.inl ⟨by rfl, ?_⟩) (by assumption) ?_
              rotate_left
              · (intro w hSw; (try dsimp only at hSw); go_simp)
                try with_reducible rfl
              try simp only [Act.put, List.getElem_toArray, List.getElem_cons_succ, List.getElem_cons_zero, List.setIfInBounds_toArray, List.set_cons_zero, List.set_cons_succ]
              refine Go.wpAnyH_take (fuel := 22) (i := 7) (oi := _) (v := ?_) rfl (by kernel_rfl) (by kernel_rfl) (by kernel_rfl) (fun _ _ _ h => h) (Or.inl ⟨by rfl, ?_⟩) (by assumption) ?_
              rotate_left
              · (intro w hSw; (try dsimp only at hSw); go_simp)
                try with_reducible rfl
              try simp only [Act.put, List.getElem_toArray, List.getElem_cons_succ, List.getElem_cons_zero, List.setIfInBounds_toArray, List.set_cons_zero, List.set_cons_succ]
              refine Go.wpAnyH_take (fuel := 21) (i := 8) (oi := _) (v := ?_) rfl (by kernel_rfl) (by kernel_rfl) (by kernel_rfl) (fun _ _ _ h => h) (Or.inl ⟨by rfl, ?_⟩) (by assumption) ?_
              rotate_left
              · (intro w hSw; (try dsimp only at hSw); go_simp)
                try with_reducible rfl
              try simp only [Act.put, List.getElem_toArray, List.getElem_cons_succ, List.getElem_cons_zero, List.setIfInBounds_toArray, List.set_cons_zero, List.set_cons_succ]
              refine Go.wpAnyH_take (fuel := 20) (i := 9) (oi := _) (v := ?_) rfl (by kernel_rfl) (by kernel_rfl) (by kernel_rfl) (fun _ _ _ h => h) (Or.inl ⟨by rfl, ?_⟩) (by assumption) ?_
              rotate_left
              · (intro w hSw; (try dsimp only at hSw); go_simp)
                try with_reducible rfl
              try simp only [Act.put, List.getElem_toArray, List.getElem_cons_succ, List.getElem_cons_zero, List.setIfInBounds_toArray, List.set_cons_zero, List.set_cons_succ]
              refine Go.wpAnyH_take (fuel := 19) (i := 10) (oi := _) (v := ?_) rfl (by kernel_rfl) (by kernel_rfl) (by kernel_rfl) (fun _ _ _ h => h) (Or.inl ⟨by rfl, ?_⟩) (by assumption) ?_
              rotate_left
              · (intro w hSw; (try dsimp only at hSw); go_simp)
                try with_reducible rfl
              try simp only [Act.put, List.getElem_toArray, List.getElem_cons_succ, List.getElem_cons_zero, List.setIfInBounds_toArray, List.set_cons_zero, List.set_cons_succ]
              refine Go.wpAnyH_take (fuel := 18) (i := 11) (oi := _) (v := ?_) rfl (by kernel_rfl) (by kernel_rfl) (by kernel_rfl) (fun _ _ _ h => h) (Or.inl ⟨by rfl, ?_⟩) (by assumption) ?_
              rotate_left
              · (intro w hSw; (try dsimp only at hSw); go_simp)
                try with_reducible rfl
              try simp only [Act.put, List.getElem_toArray, List.getElem_cons_succ, List.getElem_cons_zero, List.setIfInBounds_toArray, List.set_cons_zero, List.set_cons_succ]
              refine Go.wpAnyH_take (fuel := 17) (i := 12) (oi := _) (v := ?_) rfl (by kernel_rfl) (by kernel_rfl) (by kernel_rfl) (fun _ _ _ h => h) (Or.inl ⟨by rfl, ?_⟩) (by assumption) ?_
              rotate_left
              · (intro w hSw; (try dsimp only at hSw); go_simp)
                try with_reducible rfl
              try simp only [Act.put, List.getElem_toArray, List.getElem_cons_succ, List.getElem_cons_zero, List.setIfInBounds_toArray, List.set_cons_zero, List.set_cons_succ]
              refine Go.wpAnyH_take (fuel := 16) (i := 13) (oi := _) (v := ?_) rfl (by kernel_rfl) (by kernel_rfl) (by kernel_rfl) (fun _ _ _ h => h) (Or.inl ⟨by rfl, ?_⟩) (by assumption) ?_
              rotate_left
              · (intro w hSw; (try dsimp only at hSw); go_simp)
                try with_reducible rfl
              try simp only [Act.put, List.getElem_toArray, List.getElem_cons_succ, List.getElem_cons_zero, List.setIfInBounds_toArray, List.set_cons_zero, List.set_cons_succ]
              refine Go.wpAnyH_take (fuel := 15) (i := 14) (oi := _) (v := ?_) rfl (by kernel_rfl) (by kernel_rfl) (by kernel_rfl) (fun _ _ _ h => h) (Or.inl ⟨by rfl, ?_⟩) (by assumption) ?_
              rotate_left
              · (intro w hSw; (try dsimp only at hSw); go_simp)
                try with_reducible rfl
              try simp only [Act.put, List.getElem_toArray, List.getElem_cons_succ, List.getElem_cons_zero, List.setIfInBounds_toArray, List.set_cons_zero, List.set_cons_succ]
              refine Go.wpAnyH_take (fuel := 14) (i := 15) (oi := _) (v := ?_) rfl (by kernel_rfl) (by kernel_rfl) (by kernel_rfl) (fun _ _ _ h => h) (Or.inl ⟨by rfl, ?_⟩) (by assumption) ?_
              rotate_left
              · (intro w hSw; (try dsimp only at hSw); go_simp)
                try with_reducible rfl
              try simp only [Act.put, List.getElem_toArray, List.getElem_cons_succ, List.getElem_cons_zero, List.setIfInBounds_toArray, List.set_cons_zero, List.set_cons_succ]
              refine Go.wpAnyH_take (fuel := 13) (i := 16) (oi := _) (v := ?_) rfl (by kernel_rfl) (by kernel_rfl) (by kernel_rfl) (fun _ _ _ h => h) (Or.inl ⟨by rfl, ?_⟩) (by assumption) ?_
              rotate_left
              · (intro w hSw; (try dsimp only at hSw); go_simp)
                try with_reducible rfl
              try simp only [Act.put, List.getElem_toArray, List.getElem_cons_succ, List.getElem_cons_zero, List.setIfInBounds_toArray, List.set_cons_zero, List.set_cons_succ]
              refine Go.wpAnyH_take (fuel := 12) (i := 17) (oi := _) (v := ?_) rfl (by kernel_rfl) (by kernel_rfl) (by kernel_rfl) (fun _ _ _ h => h) (Or.inl ⟨by rfl, ?_⟩) (by assumption) ?_
              rotate_left
              · (intro w hSw; (try dsimp only at hSw); go_simp)
                try with_reducible rfl
              try simp only [Act.put, List.getElem_toArray, List.getElem_cons_succ, List.getElem_cons_zero, List.setIfInBounds_toArray, List.set_cons_zero, List.set_cons_succ]
              refine Go.wpAnyH_take (fuel := 11) (i := 18) (oi := _) (v := ?_) rfl (by kernel_rfl) (by kernel_rfl) (by kernel_rfl) (fun _ _ _ h => h) (Or.inl ⟨by rfl, ?_⟩) (by assumption) ?_
              rotate_left
              · (intro w hSw; (try dsimp only at hSw); go_simp)
                try with_reducible rfl
              try simp only [Act.put, List.getElem_toArray, List.getElem_cons_succ, List.getElem_cons_zero, List.setIfInBounds_toArray, List.set_cons_zero, List.set_cons_succ]
              refine Go.wpAnyH_take (fuel := 10) (i := 21) (oi := _) (v := ?_) rfl (by kernel_rfl) (by kernel_rfl) (by kernel_rfl) (fun _ _ _ h => h) (Or.inl ⟨by rfl, ?_⟩) (by assumption) ?_
              rotate_left
              · (intro w hSw; (try dsimp only at hSw); go_simp)
                try with_reducible rfl
              try simp only [Act.put, List.getElem_toArray, List.getElem_cons_succ, List.getElem_cons_zero, List.setIfInBounds_toArray, List.set_cons_zero, List.set_cons_succ]
              refine Go.wpAnyH_take (fuel := 9) (i := 22) (oi := _) (v := ?_) rfl (by kernel_rfl) (by kernel_rfl) (by kernel_rfl) (fun _ _ _ h => h) (Or.inl ⟨by rfl, ?_⟩) (by assumption) ?_
              rotate_left
              · (intro w hSw; (try dsimp only at hSw); go_simp)
                try with_reducible rfl
              try simp only [Act.put, List.getElem_toArray, List.getElem_cons_succ, List.getElem_cons_zero, List.setIfInBounds_toArray, List.set_cons_zero, List.set_cons_succ]
              refine Go.wpAnyH_take (fuel := 8) (i := 23) (oi := _) (v := ?_) rfl (by kernel_rfl) (by kernel_rfl) (by kernel_rfl) (fun _ _ _ h => h) (Or.inl ⟨by rfl, ?_⟩) (by assumption) ?_
              rotate_left
              · (intro w hSw; (try dsimp only at hSw); go_simp)
                try with_reducible rfl
              try simp only [Act.put, List.getElem_toArray, List.getElem_cons_succ, List.getElem_cons_zero, List.setIfInBounds_toArray, List.set_cons_zero, List.set_cons_succ]
              refine Go.wpAnyH_take (fuel := 7) (i := 24) (oi := _) (v := ?_) rfl (by kernel_rfl) (by kernel_rfl) (by kernel_rfl) (fun _ _ _ h => h) (Or.inl ⟨by rfl, ?_⟩) (by assumption) ?_
              rotate_left
              · (intro w hSw; (try dsimp only at hSw); go_simp)
                try with_reducible rfl
              try simp only [Act.put, List.getElem_toArray, List.getElem_cons_succ, List.getElem_cons_zero, List.setIfInBounds_toArray, List.set_cons_zero, List.set_cons_succ]
              refine Go.wpAnyH_take (fuel := 6) (i := 25) (oi := _) (v := ?_) rfl (by kernel_rfl) (by kernel_rfl) (by kernel_rfl) (fun _ _ _ h => h) (Or.inl ⟨by rfl, ?_⟩) (by assumption) ?_
              rotate_left
              · (intro w hSw; (try dsimp only at hSw); go_simp)
                try with_reducible rfl
              try simp only [Act.put, List.getElem_toArray, List.getElem_cons_succ, List.getElem_cons_zero, List.setIfInBounds_toArray, List.set_cons_zero, List.set_cons_succ]
              refine Go.wpAnyH_ready (fuel := 5) (rs := [19]) (by kernel_rfl) (by simp) ?_
              refine Go.AllReadyH.cons (o := _) rfl (fun K hK => ?_) Go.AllReadyH.nil
              have HKX := Lib.hid hK
              clear hK
              go_simp
              go_at_call 58
              refine (top_any SMF.out.am.heap (HR1.out (by simp)).1).mono ?_
              rintro e wg ⟨a, g, x, hg0, rfl, hbg⟩
              have HG0 := Lib.hid hg0
              have SMG := Lib.hid (SMF.out.keep hbg)
              have HBG := Lib.hid hbg
              clear hg0 hbg
              have k2s := HFO.out _ _ SMG.out.am
              refine HKX.out.out _ _ k2s (fun hHeld => ?_)
              clear HKX
              try simp only [Act.put, List.getElem_toArray, List.getElem_cons_succ, List.getElem_cons_zero, List.setIfInBounds_toArray, List.set_cons_zero, List.set_cons_succ]
              have hnx := SMF.out.nx HLT.out (HR1.out (by simp))
              rw [HG0.out] at hnx
              have hax : a = (kyA (cwt F.ws s1) F.h s1 x).1 := congrArg Prod.fst hnx.2
              have HNXX := Lib.hid hnx
              have HAX := Lib.hid hax
              clear hax hnx
              have hcmp : a < kt := by
                obtain ⟨hn1, hn2⟩ := HNXX.out
                simp only at hn1
                obtain ⟨v, hv1, hv2⟩ := HK.out
                rw [HAX.out, hn1.unique hv1]
                exact hv2
              have hfd : ∀ w : World, (Instr.field 101 (.agg #[.int .i64 a, .int .i64 g, .int .i64 x]) 0).run Try.prog w = .ok (.int .i64 a) w := fun _ => by kernel_rfl
              refine Go.wpAnyH_take (fuel := 4) (i := 20) (oi := _) (v := ?_) rfl (by kernel_rfl) (by kernel_rfl) (by kernel_rfl) (fun _ _ _ h => h) (Or.inl ⟨by rfl, ?_⟩) (by assumption) ?_
              rotate_left
              · (intro w hSw; (try dsimp only at hSw); go_simp)
                try with_reducible rfl
              try simp only [Act.put, List.getElem_toArray, List.getElem_cons_succ, List.getElem_cons_zero, List.setIfInBounds_toArray, List.set_cons_zero, List.set_cons_succ]
              refine Go.wpAnyH_ready (fuel := 3) (rs := [26]) (by kernel_rfl) (by simp) ?_
              refine Go.AllReadyH.cons (o := _) rfl (fun K hK => ?_) Go.AllReadyH.nil
              have HKX := Lib.hid hK
              clear hK
              go_simp
              go_at_call 59
              refine (KKY.out _ _ _ SMG.out).mono ?_
              rintro e wh ⟨rfl, hbh⟩
              have SMH := Lib.hid (SMG.out.keep hbh)
              have HBH := Lib.hid hbh
              clear hbh
              have k3s := HFO.out _ _ SMH.out.am
              refine HKX.out.out _ _ k3s (fun hHeld => ?_)
              clear HKX
              try simp only [Act.put, List.getElem_toArray, List.getElem_cons_succ, List.getElem_cons_zero, List.setIfInBounds_toArray, List.set_cons_zero, List.set_cons_succ]
              refine Go.wpAnyH_take (fuel := 2) (i := 27) (oi := _) (v := ?_) rfl (by kernel_rfl) (by kernel_rfl) (by kernel_rfl) (fun _ _ _ h => h) (Or.inl ⟨by rfl, ?_⟩) (by assumption) ?_
              rotate_left
              · (intro w hSw; (try dsimp only at hSw); go_simp)
                try with_reducible rfl
              try simp only [Act.put, List.getElem_toArray, List.getElem_cons_succ, List.getElem_cons_zero, List.setIfInBounds_toArray, List.set_cons_zero, List.set_cons_succ]
              refine Go.wpAnyH_take (fuel := 1) (i := 28) (oi := _) (v := ?_) rfl (by kernel_rfl) (by kernel_rfl) (by kernel_rfl) (fun _ _ _ h => h) (Or.inl ⟨by rfl, ?_⟩) (by assumption) ?_
              rotate_left
              · (intro w hSw; (try dsimp only at hSw); go_simp)
                try with_reducible rfl
              try simp only [Act.put, List.getElem_toArray, List.getElem_cons_succ, List.getElem_cons_zero, List.setIfInBounds_toArray, List.set_cons_zero, List.set_cons_succ]
              refine Go.wpAnyH_take (fuel := 0) (i := 29) (oi := _) (v := ?_) rfl (by kernel_rfl) (by kernel_rfl) (by kernel_rfl) (fun _ _ _ h => h) (Or.inl ⟨by rfl, ?_⟩) (by assumption) ?_
              rotate_left
              · (intro w hSw; (try dsimp only at hSw); go_simp)
                try with_reducible rfl
              try simp only [Act.put, List.getElem_toArray, List.getElem_cons_succ, List.getElem_cons_zero, List.setIfInBounds_toArray, List.set_cons_zero, List.set_cons_succ]
              refine Go.wpAnyH_done (by kernel_rfl) ?_ _
              go_wp2
              go_meet
              exact ⟨true, Yf, rfl, SMH, Lib.hid ((FRF.out.below HBG.out).below (HBH.out)), Lib.hid ⟨fun _ => ⟨⟨x, HNXX.out.1, .inr (by rw [← HAX.out, HKT.out]; exact hcmp)⟩, HR1.out (by simp)⟩, fun h => (nomatch h)⟩⟩
            · have HK := Lib.hid hK
              clear hK
              refine Go.wp_region_held_drew (S := (fun w' => w'.cell? ⟨P, 3, none⟩ = some (.int .i64 F.tt) ∧ w'.cell? ⟨P, 6, none⟩ = some (.slice (some ⟨F.SC, 0, none⟩) F.n F.n) ∧ w'.cell? ⟨P, 10, none⟩ = some (.pointer (some ⟨F.H, 0, none⟩)) ∧ w'.cell? ⟨F.SC, F.tt, none⟩ = some (.int .i64 ct))) (by kernel_rfl) s0 (fun hHeld => ?_)
              refine Go.wpAnyH_take (fuel := 29) (i := 0) (oi := _) (v := ?_) rfl (by kernel_rfl) (by kernel_rfl) (by kernel_rfl) (fun _ _ _ h => h) (Or.inl ⟨by rfl, ?_⟩) (by assumption) ?_
              rotate_left
              · (intro w hSw; (try dsimp only at hSw); go_simp)
                try with_reducible rfl
              try simp only [Act.put, List.getElem_toArray, List.getElem_cons_succ, List.getElem_cons_zero, List.setIfInBounds_toArray, List.set_cons_zero, List.set_cons_succ]
              refine Go.wpAnyH_ready (fuel := 28) (rs := [1]) (by kernel_rfl) (by simp) ?_
              refine Go.AllReadyH.cons (o := _) rfl (fun K hK => ?_) Go.AllReadyH.nil
              have HKX := Lib.hid hK
              clear hK
              go_simp
              go_at_call 57
              refine KFR.out.mono ?_
              rintro e wf ⟨r, Yf, rfl, smf, frf, hr1, hr2⟩
              have k1s := HFO.out _ _ smf.am
              obtain rfl := (fresh_yes smf HLT.out hr2 HF.out)
              have SMF := Lib.hid smf
              have FRF := Lib.hid (HF2.out.drew.trans frf)
              have HR1 := Lib.hid hr1
              have HR2 := Lib.hid hr2
              clear smf frf hr1 hr2
              refine HKX.out.out _ _ k1s (fun hHeld => ?_)
              clear HKX
              try simp only [Act.put, List.getElem_toArray, List.getElem_cons_succ, List.getElem_cons_zero, List.setIfInBounds_toArray, List.set_cons_zero, List.set_cons_succ]
              refine Go.wpAnyH_take (fuel := 27) (i := 2) (oi := _) (v := ?_) rfl (by kernel_rfl) (by kernel_rfl) (by kernel_rfl) (fun _ _ _ h => h) (Or.inl ⟨by rfl, ?_⟩) (by assumption) ?_
              rotate_left
              · (intro w hSw; (try dsimp only at hSw); go_simp)
                try with_reducible rfl
              try simp only [Act.put, List.getElem_toArray, List.getElem_cons_succ, List.getElem_cons_zero, List.setIfInBounds_toArray, List.set_cons_zero, List.set_cons_succ]
              refine Go.wpAnyH_take (fuel := 26) (i := 3) (oi := _) (v := ?_) rfl (by kernel_rfl) (by kernel_rfl) (by kernel_rfl) (fun _ _ _ h => h) (Or.inl ⟨by rfl, ?_⟩) (by assumption) ?_
              rotate_left
              · (intro w hSw; (try dsimp only at hSw); go_simp)
                try with_reducible rfl
              try simp only [Act.put, List.getElem_toArray, List.getElem_cons_succ, List.getElem_cons_zero, List.setIfInBounds_toArray, List.set_cons_zero, List.set_cons_succ]
              refine Go.wpAnyH_take (fuel := 25) (i := 4) (oi := _) (v := ?_) rfl (by kernel_rfl) (by kernel_rfl) (by kernel_rfl) (fun _ _ _ h => h) (Or.inl ⟨by rfl, ?_⟩) (by assumption) ?_
              rotate_left
              · (intro w hSw; (try dsimp only at hSw); go_simp)
                try with_reducible rfl
              try simp only [Act.put, List.getElem_toArray, List.getElem_cons_succ, List.getElem_cons_zero, List.setIfInBounds_toArray, List.set_cons_zero, List.set_cons_succ]
              refine Go.wpAnyH_take (fuel := 24) (i := 5) (oi := _) (v := ?_) rfl (by kernel_rfl) (by kernel_rfl) (by kernel_rfl) (fun _ _ _ h => h) (Or.inl ⟨by rfl, ?_⟩) (by assumption) ?_
              rotate_left
              · (intro w hSw; (try dsimp only at hSw); go_simp)
                try with_reducible rfl
              try simp only [Act.put, List.getElem_toArray, List.getElem_cons_succ, List.getElem_cons_zero, List.setIfInBounds_toArray, List.set_cons_zero, List.set_cons_succ]
              refine Go.wpAnyH_take (fuel := 23) (i := 6) (oi := _) (v := ?_) rfl (by kernel_rfl) (by kernel_rfl) (by kernel_rfl) (fun _ _ _ h => h) (Or.inl ⟨by rfl, ?_⟩) (by assumption) ?_
              rotate_left
              · (intro w hSw; (try dsimp only at hSw); go_simp)
                try with_reducible rfl
              try simp only [Act.put, List.getElem_toArray, List.getElem_cons_succ, List.getElem_cons_zero, List.setIfInBounds_toArray, List.set_cons_zero, List.set_cons_succ]
              refine Go.wpAnyH_take (fuel := 22) (i := 7) (oi := _) (v := ?_) rfl (by kernel_rfl) (by kernel_rfl) (by kernel_rfl) (fun _ _ _ h => h) (Or.inl ⟨by rfl, ?_⟩) (by assumption) ?_
              rotate_left
              · (intro w hSw; (try dsimp only at hSw); go_simp)
                try with_reducible rfl
              try simp only [Act.put, List.getElem_toArray, List.getElem_cons_succ, List.getElem_cons_zero, List.setIfInBounds_toArray, List.set_cons_zero, List.set_cons_succ]
              refine Go.wpAnyH_take (fuel := 21) (i := 8) (oi := _) (v := ?_) rfl (by kernel_rfl) (by kernel_rfl) (by kernel_rfl) (fun _ _ _ h => h) (Or.inl ⟨by rfl, ?_⟩) (by assumption) ?_
              rotate_left
              · (intro w hSw; (try dsimp only at hSw); go_simp)
                try with_reducible rfl
              try simp only [Act.put, List.getElem_toArray, List.getElem_cons_succ, List.getElem_cons_zero, List.setIfInBounds_toArray, List.set_cons_zero, List.set_cons_succ]
              refine Go.wpAnyH_take (fuel := 20) (i := 9) (oi := _) (v := ?_) rfl (by kernel_rfl) (by kernel_rfl) (by kernel_rfl) (fun _ _ _ h => h) (Or.inl ⟨by rfl, ?_⟩) (by assumption) ?_
              rotate_left
              · (intro w hSw; (try dsimp only at hSw); go_simp)
                try with_reducible rfl
              try simp only [Act.put, List.getElem_toArray, List.getElem_cons_succ, List.getElem_cons_zero, List.setIfInBounds_toArray, List.set_cons_zero, List.set_cons_succ]
              refine Go.wpAnyH_take (fuel := 19) (i := 10) (oi := _) (v := ?_) rfl (by kernel_rfl) (by kernel_rfl) (by kernel_rfl) (fun _ _ _ h => h) (Or.inl ⟨by rfl, ?_⟩) (by assumption) ?_
              rotate_left
              · (intro w hSw; (try dsimp only at hSw); go_simp)
                try with_reducible rfl
              try simp only [Act.put, List.getElem_toArray, List.getElem_cons_succ, List.getElem_cons_zero, List.setIfInBounds_toArray, List.set_cons_zero, List.set_cons_succ]
              refine Go.wpAnyH_take (fuel := 18) (i := 11) (oi := _) (v := ?_) rfl (by kernel_rfl) (by kernel_rfl) (by kernel_rfl) (fun _ _ _ h => h) (Or.inl ⟨by rfl, ?_⟩) (by assumption) ?_
              rotate_left
              · (intro w hSw; (try dsimp only at hSw); go_simp)
                try with_reducible rfl
              try simp only [Act.put, List.getElem_toArray, List.getElem_cons_succ, List.getElem_cons_zero, List.setIfInBounds_toArray, List.set_cons_zero, List.set_cons_succ]
              refine Go.wpAnyH_take (fuel := 17) (i := 12) (oi := _) (v := ?_) rfl (by kernel_rfl) (by kernel_rfl) (by kernel_rfl) (fun _ _ _ h => h) (Or.inl ⟨by rfl, ?_⟩) (by assumption) ?_
              rotate_left
              · (intro w hSw; (try dsimp only at hSw); go_simp)
                try with_reducible rfl
              try simp only [Act.put, List.getElem_toArray, List.getElem_cons_succ, List.getElem_cons_zero, List.setIfInBounds_toArray, List.set_cons_zero, List.set_cons_succ]
              refine Go.wpAnyH_take (fuel := 16) (i := 13) (oi := _) (v := ?_) rfl (by kernel_rfl) (by kernel_rfl) (by kernel_rfl) (fun _ _ _ h => h) (Or.inl ⟨by rfl, ?_⟩) (by assumption) ?_
              rotate_left
              · (intro w hSw; (try dsimp only at hSw); go_simp)
                try with_reducible rfl
              try simp only [Act.put, List.getElem_toArray, List.getElem_cons_succ, List.getElem_cons_zero, List.setIfInBounds_toArray, List.set_cons_zero, List.set_cons_succ]
              refine Go.wpAnyH_take (fuel := 15) (i := 14) (oi := _) (v := ?_) rfl (by kernel_rfl) (by kernel_rfl) (by kernel_rfl) (fun _ _ _ h => h) (Or.inl ⟨by rfl, ?_⟩) (by assumption) ?_
              rotate_left
              · (intro w hSw; (try dsimp only at hSw); go_simp)
                try with_reducible rfl
              try simp only [Act.put, List.getElem_toArray, List.getElem_cons_succ, List.getElem_cons_zero, List.setIfInBounds_toArray, List.set_cons_zero, List.set_cons_succ]
              refine Go.wpAnyH_take (fuel := 14) (i := 15) (oi := _) (v := ?_) rfl (by kernel_rfl) (by kernel_rfl) (by kernel_rfl) (fun _ _ _ h => h) (Or.inl ⟨by rfl, ?_⟩) (by assumption) ?_
              rotate_left
              · (intro w hSw; (try dsimp only at hSw); go_simp)
                try with_reducible rfl
              try simp only [Act.put, List.getElem_toArray, List.getElem_cons_succ, List.getElem_cons_zero, List.setIfInBounds_toArray, List.set_cons_zero, List.set_cons_succ]
              refine Go.wpAnyH_take (fuel := 13) (i := 16) (oi := _) (v := ?_) rfl (by kernel_rfl) (by kernel_rfl) (by kernel_rfl) (fun _ _ _ h => h) (Or.inl ⟨by rfl, ?_⟩) (by assumption) ?_
              rotate_left
              · (intro w hSw; (try dsimp only at hSw); go_simp)
                try with_reducible rfl
              try simp only [Act.put, List.getElem_toArray, List.getElem_cons_succ, List.getElem_cons_zero, List.setIfInBounds_toArray, List.set_cons_zero, List.set_cons_succ]
              refine Go.wpAnyH_take (fuel := 12) (i := 17) (oi := _) (v := ?_) rfl (by kernel_rfl) (by kernel_rfl) (by kernel_rfl) (fun _ _ _ h => h) (Or.inl ⟨by rfl, ?_⟩) (by assumption) ?_
              rotate_left
              · (intro w hSw; (try dsimp only at hSw); go_simp)
                try with_reducible rfl
              try simp only [Act.put, List.getElem_toArray, List.getElem_cons_succ, List.getElem_cons_zero, List.setIfInBounds_toArray, List.set_cons_zero, List.set_cons_succ]
              refine Go.wpAnyH_take (fuel := 11) (i := 18) (oi := _) (v := ?_) rfl (by kernel_rfl) (by kernel_rfl) (by kernel_rfl) (fun _ _ _ h => h) (Or.inl ⟨by rfl, ?_⟩) (by assumption) ?_
              rotate_left
              · (intro w hSw; (try dsimp only at hSw); go_simp)
                try with_reducible rfl
              try simp only [Act.put, List.getElem_toArray, List.getElem_cons_succ, List.getElem_cons_zero, List.setIfInBounds_toArray, List.set_cons_zero, List.set_cons_succ]
              refine Go.wpAnyH_take (fuel := 10) (i := 21) (oi := _) (v := ?_) rfl (by kernel_rfl) (by kernel_rfl) (by kernel_rfl) (fun _ _ _ h => h) (Or.inl ⟨by rfl, ?_⟩) (by assumption) ?_
              rotate_left
              · (intro w hSw; (try dsimp only at hSw); go_simp)
                try with_reducible rfl
              try simp only [Act.put, List.getElem_toArray, List.getElem_cons_succ, List.getElem_cons_zero, List.setIfInBounds_toArray, List.set_cons_zero, List.set_cons_succ]
              refine Go.wpAnyH_take (fuel := 9) (i := 22) (oi := _) (v := ?_) rfl (by kernel_rfl) (by kernel_rfl) (by kernel_rfl) (fun _ _ _ h => h) (Or.inl ⟨by rfl, ?_⟩) (by assumption) ?_
              rotate_left
              · (intro w hSw; (try dsimp only at hSw); go_simp)
                try with_reducible rfl
              try simp only [Act.put, List.getElem_toArray, List.getElem_cons_succ, List.getElem_cons_zero, List.setIfInBounds_toArray, List.set_cons_zero, List.set_cons_succ]
              refine Go.wpAnyH_take (fuel := 8) (i := 23) (oi := _) (v := ?_) rfl (by kernel_rfl) (by kernel_rfl) (by kernel_rfl) (fun _ _ _ h => h) (Or.inl ⟨by rfl, ?_⟩) (by assumption) ?_
              rotate_left
              · (intro w hSw; (try dsimp only at hSw); go_simp)
                try with_reducible rfl
              try simp only [Act.put, List.getElem_toArray, List.getElem_cons_succ, List.getElem_cons_zero, List.setIfInBounds_toArray, List.set_cons_zero, List.set_cons_succ]
              refine Go.wpAnyH_take (fuel := 7) (i := 24) (oi := _) (v := ?_) rfl (by kernel_rfl) (by kernel_rfl) (by kernel_rfl) (fun _ _ _ h => h) (Or.inl ⟨by rfl, ?_⟩) (by assumption) ?_
              rotate_left
              · (intro w hSw; (try dsimp only at hSw); go_simp)
                try with_reducible rfl
              try simp only [Act.put, List.getElem_toArray, List.getElem_cons_succ, List.getElem_cons_zero, List.setIfInBounds_toArray, List.set_cons_zero, List.set_cons_succ]
              refine Go.wpAnyH_take (fuel := 6) (i := 25) (oi := _) (v := ?_) rfl (by kernel_rfl) (by kernel_rfl) (by kernel_rfl) (fun _ _ _ h => h) (Or.inl ⟨by rfl, ?_⟩) (by assumption) ?_
              rotate_left
              · (intro w hSw; (try dsimp only at hSw); go_simp)
                try with_reducible rfl
              try simp only [Act.put, List.getElem_toArray, List.getElem_cons_succ, List.getElem_cons_zero, List.setIfInBounds_toArray, List.set_cons_zero, List.set_cons_succ]
              refine Go.wpAnyH_ready (fuel := 5) (rs := [19]) (by kernel_rfl) (by simp) ?_
              refine Go.AllReadyH.cons (o := _) rfl (fun K hK => ?_) Go.AllReadyH.nil
              have HKX := Lib.hid hK
              clear hK
              go_simp
              go_at_call 58
              refine (top_any SMF.out.am.heap (HR1.out (by simp)).1).mono ?_
              rintro e wg ⟨a, g, x, hg0, rfl, hbg⟩
              have HG0 := Lib.hid hg0
              have SMG := Lib.hid (SMF.out.keep hbg)
              have HBG := Lib.hid hbg
              clear hg0 hbg
              have k2s := HFO.out _ _ SMG.out.am
              refine HKX.out.out _ _ k2s (fun hHeld => ?_)
              clear HKX
              try simp only [Act.put, List.getElem_toArray, List.getElem_cons_succ, List.getElem_cons_zero, List.setIfInBounds_toArray, List.set_cons_zero, List.set_cons_succ]
              have hnx := SMF.out.nx HLT.out (HR1.out (by simp))
              rw [HG0.out] at hnx
              have hax : a = (kyA (cwt F.ws s1) F.h s1 x).1 := congrArg Prod.fst hnx.2
              have HNXX := Lib.hid hnx
              have HAX := Lib.hid hax
              clear hax hnx
              have hcmp : ¬ a < kt := by
                obtain ⟨hn1, hn2⟩ := HNXX.out
                simp only at hn1
                intro hlt
                exact HK.out ⟨x, hn1, by rw [← HAX.out]; exact hlt⟩
              have hfd : ∀ w : World, (Instr.field 101 (.agg #[.int .i64 a, .int .i64 g, .int .i64 x]) 0).run Try.prog w = .ok (.int .i64 a) w := fun _ => by kernel_rfl
              refine Go.wpAnyH_take (fuel := 4) (i := 20) (oi := _) (v := ?_) rfl (by kernel_rfl) (by kernel_rfl) (by kernel_rfl) (fun _ _ _ h => h) (Or.inl ⟨by rfl, ?_⟩) (by assumption) ?_
              rotate_left
              · (intro w hSw; (try dsimp only at hSw); go_simp)
                try with_reducible rfl
              try simp only [Act.put, List.getElem_toArray, List.getElem_cons_succ, List.getElem_cons_zero, List.setIfInBounds_toArray, List.set_cons_zero, List.set_cons_succ]
              refine Go.wpAnyH_ready (fuel := 3) (rs := [26]) (by kernel_rfl) (by simp) ?_
              refine Go.AllReadyH.cons (o := _) rfl (fun K hK => ?_) Go.AllReadyH.nil
              have HKX := Lib.hid hK
              clear hK
              go_simp
              go_at_call 59
              refine (KKY.out _ _ _ SMG.out).mono ?_
              rintro e wh ⟨rfl, hbh⟩
              have SMH := Lib.hid (SMG.out.keep hbh)
              have HBH := Lib.hid hbh
              clear hbh
              have k3s := HFO.out _ _ SMH.out.am
              refine HKX.out.out _ _ k3s (fun hHeld => ?_)
              clear HKX
              try simp only [Act.put, List.getElem_toArray, List.getElem_cons_succ, List.getElem_cons_zero, List.setIfInBounds_toArray, List.set_cons_zero, List.set_cons_succ]
              refine Go.wpAnyH_take (fuel := 2) (i := 27) (oi := _) (v := ?_) rfl (by kernel_rfl) (by kernel_rfl) (by kernel_rfl) (fun _ _ _ h => h) (Or.inl ⟨by rfl, ?_⟩) (by assumption) ?_
              rotate_left
              · (intro w hSw; (try dsimp only at hSw); go_simp)
                try with_reducible rfl
              try simp only [Act.put, List.getElem_toArray, List.getElem_cons_succ, List.getElem_cons_zero, List.setIfInBounds_toArray, List.set_cons_zero, List.set_cons_succ]
              refine Go.wpAnyH_take (fuel := 1) (i := 28) (oi := _) (v := ?_) rfl (by kernel_rfl) (by kernel_rfl) (by kernel_rfl) (fun _ _ _ h => h) (Or.inl ⟨by rfl, ?_⟩) (by assumption) ?_
              rotate_left
              · (intro w hSw; (try dsimp only at hSw); go_simp)
                try with_reducible rfl
              try simp only [Act.put, List.getElem_toArray, List.getElem_cons_succ, List.getElem_cons_zero, List.setIfInBounds_toArray, List.set_cons_zero, List.set_cons_succ]
              refine Go.wpAnyH_take (fuel := 0) (i := 29) (oi := _) (v := ?_) rfl (by kernel_rfl) (by kernel_rfl) (by kernel_rfl) (fun _ _ _ h => h) (Or.inl ⟨by rfl, ?_⟩) (by assumption) ?_
              rotate_left
              · (intro w hSw; (try dsimp only at hSw); go_simp)
                try with_reducible rfl
              try simp only [Act.put, List.getElem_toArray, List.getElem_cons_succ, List.getElem_cons_zero, List.setIfInBounds_toArray, List.set_cons_zero, List.set_cons_succ]
              refine Go.wpAnyH_done (by kernel_rfl) ?_ _
              go_wp2
              go_meet
              exact ⟨false, Yf, rfl, SMH, Lib.hid ((FRF.out.below HBG.out).below (HBH.out)), Lib.hid ⟨fun h => (nomatch h), fun _ => .inr ⟨x, HNXX.out.1, by rw [HCTT.out]; exact HCT.out, by rw [← HAX.out, HKT.out]; omega⟩⟩⟩
        · have HF := Lib.hid hF
          clear hF
          refine Go.wp_region_held_drew (S := (fun w' => w'.cell? ⟨P, 3, none⟩ = some (.int .i64 F.tt) ∧ w'.cell? ⟨P, 6, none⟩ = some (.slice (some ⟨F.SC, 0, none⟩) F.n F.n) ∧ w'.cell? ⟨P, 10, none⟩ = some (.pointer (some ⟨F.H, 0, none⟩)) ∧ w'.cell? ⟨F.SC, F.tt, none⟩ = some (.int .i64 ct))) (by kernel_rfl) s0 (fun hHeld => ?_)
          refine Go.wpAnyH_take (fuel := 29) (i := 0) (oi := _) (v := ?_) rfl (by kernel_rfl) (by kernel_rfl) (by kernel_rfl) (fun _ _ _ h => h) (Or.inl ⟨by rfl, ?_⟩) (by assumption) ?_
          rotate_left
          · (intro w hSw; (try dsimp only at hSw); go_simp)
            try with_reducible rfl
          try simp only [Act.put, List.getElem_toArray, List.getElem_cons_succ, List.getElem_cons_zero, List.setIfInBounds_toArray, List.set_cons_zero, List.set_cons_succ]
          refine Go.wpAnyH_ready (fuel := 28) (rs := [1]) (by kernel_rfl) (by simp) ?_
          refine Go.AllReadyH.cons (o := _) rfl (fun K hK => ?_) Go.AllReadyH.nil
          have HKX := Lib.hid hK
          clear hK
          go_simp
          go_at_call 57
          refine KFR.out.mono ?_
          rintro e wf ⟨r, Yf, rfl, smf, frf, hr1, hr2⟩
          have k1s := HFO.out _ _ smf.am
          obtain rfl := (fresh_no smf HLT.out hr1 HF.out)
          have SMF := Lib.hid smf
          have FRF := Lib.hid (HF2.out.drew.trans frf)
          have HR1 := Lib.hid hr1
          have HR2 := Lib.hid hr2
          clear smf frf hr1 hr2
          refine HKX.out.out _ _ k1s (fun hHeld => ?_)
          clear HKX
          try simp only [Act.put, List.getElem_toArray, List.getElem_cons_succ, List.getElem_cons_zero, List.setIfInBounds_toArray, List.set_cons_zero, List.set_cons_succ]
          refine Go.wpAnyH_take (fuel := 27) (i := 2) (oi := _) (v := ?_) rfl (by kernel_rfl) (by kernel_rfl) (by kernel_rfl) (fun _ _ _ h => h) (Or.inl ⟨by rfl, ?_⟩) (by assumption) ?_
          rotate_left
          · (intro w hSw; (try dsimp only at hSw); go_simp)
            try with_reducible rfl
          try simp only [Act.put, List.getElem_toArray, List.getElem_cons_succ, List.getElem_cons_zero, List.setIfInBounds_toArray, List.set_cons_zero, List.set_cons_succ]
          refine Go.wpAnyH_take (fuel := 26) (i := 3) (oi := _) (v := undef) rfl (by kernel_rfl) (by kernel_rfl) (by kernel_rfl) (fun _ _ _ h => h) (Or.inr ⟨by rfl, rfl⟩) (by assumption) ?_
          try simp only [Act.put, List.getElem_toArray, List.getElem_cons_succ, List.getElem_cons_zero, List.setIfInBounds_toArray, List.set_cons_zero, List.set_cons_succ]
          refine Go.wpAnyH_take (fuel := 25) (i := 4) (oi := _) (v := undef) rfl (by kernel_rfl) (by kernel_rfl) (by kernel_rfl) (fun _ _ _ h => h) (Or.inr ⟨by rfl, rfl⟩) (by assumption) ?_
          try simp only [Act.put, List.getElem_toArray, List.getElem_cons_succ, List.getElem_cons_zero, List.setIfInBounds_toArray, List.set_cons_zero, List.set_cons_succ]
          refine Go.wpAnyH_take (fuel := 24) (i := 5) (oi := _) (v := undef) rfl (by kernel_rfl) (by kernel_rfl) (by kernel_rfl) (fun _ _ _ h => h) (Or.inr ⟨by rfl, rfl⟩) (by assumption) ?_
          try simp only [Act.put, List.getElem_toArray, List.getElem_cons_succ, List.getElem_cons_zero, List.setIfInBounds_toArray, List.set_cons_zero, List.set_cons_succ]
          refine Go.wpAnyH_take (fuel := 23) (i := 6) (oi := _) (v := undef) rfl (by kernel_rfl) (by kernel_rfl) (by kernel_rfl) (fun _ _ _ h => h) (Or.inr ⟨by rfl, rfl⟩) (by assumption) ?_
          try simp only [Act.put, List.getElem_toArray, List.getElem_cons_succ, List.getElem_cons_zero, List.setIfInBounds_toArray, List.set_cons_zero, List.set_cons_succ]
          refine Go.wpAnyH_take (fuel := 22) (i := 7) (oi := _) (v := undef) rfl (by kernel_rfl) (by kernel_rfl) (by kernel_rfl) (fun _ _ _ h => h) (Or.inr ⟨by rfl, rfl⟩) (by assumption) ?_
          try simp only [Act.put, List.getElem_toArray, List.getElem_cons_succ, List.getElem_cons_zero, List.setIfInBounds_toArray, List.set_cons_zero, List.set_cons_succ]
          refine Go.wpAnyH_take (fuel := 21) (i := 8) (oi := _) (v := undef) rfl (by kernel_rfl) (by kernel_rfl) (by kernel_rfl) (fun _ _ _ h => h) (Or.inr ⟨by rfl, rfl⟩) (by assumption) ?_
          try simp only [Act.put, List.getElem_toArray, List.getElem_cons_succ, List.getElem_cons_zero, List.setIfInBounds_toArray, List.set_cons_zero, List.set_cons_succ]
          refine Go.wpAnyH_take (fuel := 20) (i := 9) (oi := _) (v := undef) rfl (by kernel_rfl) (by kernel_rfl) (by kernel_rfl) (fun _ _ _ h => h) (Or.inr ⟨by rfl, rfl⟩) (by assumption) ?_
          try simp only [Act.put, List.getElem_toArray, List.getElem_cons_succ, List.getElem_cons_zero, List.setIfInBounds_toArray, List.set_cons_zero, List.set_cons_succ]
          refine Go.wpAnyH_take (fuel := 19) (i := 10) (oi := _) (v := undef) rfl (by kernel_rfl) (by kernel_rfl) (by kernel_rfl) (fun _ _ _ h => h) (Or.inr ⟨by rfl, rfl⟩) (by assumption) ?_
          try simp only [Act.put, List.getElem_toArray, List.getElem_cons_succ, List.getElem_cons_zero, List.setIfInBounds_toArray, List.set_cons_zero, List.set_cons_succ]
          refine Go.wpAnyH_take (fuel := 18) (i := 11) (oi := _) (v := undef) rfl (by kernel_rfl) (by kernel_rfl) (by kernel_rfl) (fun _ _ _ h => h) (Or.inr ⟨by rfl, rfl⟩) (by assumption) ?_
          try simp only [Act.put, List.getElem_toArray, List.getElem_cons_succ, List.getElem_cons_zero, List.setIfInBounds_toArray, List.set_cons_zero, List.set_cons_succ]
          refine Go.wpAnyH_take (fuel := 17) (i := 12) (oi := _) (v := undef) rfl (by kernel_rfl) (by kernel_rfl) (by kernel_rfl) (fun _ _ _ h => h) (Or.inr ⟨by rfl, rfl⟩) (by assumption) ?_
          try simp only [Act.put, List.getElem_toArray, List.getElem_cons_succ, List.getElem_cons_zero, List.setIfInBounds_toArray, List.set_cons_zero, List.set_cons_succ]
          refine Go.wpAnyH_take (fuel := 16) (i := 13) (oi := _) (v := undef) rfl (by kernel_rfl) (by kernel_rfl) (by kernel_rfl) (fun _ _ _ h => h) (Or.inr ⟨by rfl, rfl⟩) (by assumption) ?_
          try simp only [Act.put, List.getElem_toArray, List.getElem_cons_succ, List.getElem_cons_zero, List.setIfInBounds_toArray, List.set_cons_zero, List.set_cons_succ]
          refine Go.wpAnyH_take (fuel := 15) (i := 14) (oi := _) (v := undef) rfl (by kernel_rfl) (by kernel_rfl) (by kernel_rfl) (fun _ _ _ h => h) (Or.inr ⟨by rfl, rfl⟩) (by assumption) ?_
          try simp only [Act.put, List.getElem_toArray, List.getElem_cons_succ, List.getElem_cons_zero, List.setIfInBounds_toArray, List.set_cons_zero, List.set_cons_succ]
          refine Go.wpAnyH_take (fuel := 14) (i := 15) (oi := _) (v := undef) rfl (by kernel_rfl) (by kernel_rfl) (by kernel_rfl) (fun _ _ _ h => h) (Or.inr ⟨by rfl, rfl⟩) (by assumption) ?_
          try simp only [Act.put, List.getElem_toArray, List.getElem_cons_succ, List.getElem_cons_zero, List.setIfInBounds_toArray, List.set_cons_zero, List.set_cons_succ]
          refine Go.wpAnyH_take (fuel := 13) (i := 16) (oi := _) (v := undef) rfl (by kernel_rfl) (by kernel_rfl) (by kernel_rfl) (fun _ _ _ h => h) (Or.inr ⟨by rfl, rfl⟩) (by assumption) ?_
          try simp only [Act.put, List.getElem_toArray, List.getElem_cons_succ, List.getElem_cons_zero, List.setIfInBounds_toArray, List.set_cons_zero, List.set_cons_succ]
          refine Go.wpAnyH_take (fuel := 12) (i := 17) (oi := _) (v := undef) rfl (by kernel_rfl) (by kernel_rfl) (by kernel_rfl) (fun _ _ _ h => h) (Or.inr ⟨by rfl, rfl⟩) (by assumption) ?_
          try simp only [Act.put, List.getElem_toArray, List.getElem_cons_succ, List.getElem_cons_zero, List.setIfInBounds_toArray, List.set_cons_zero, List.set_cons_succ]
          refine Go.wpAnyH_take (fuel := 11) (i := 18) (oi := _) (v := undef) rfl (by kernel_rfl) (by kernel_rfl) (by kernel_rfl) (fun _ _ _ h => h) (Or.inr ⟨by rfl, rfl⟩) (by assumption) ?_
          try simp only [Act.put, List.getElem_toArray, List.getElem_cons_succ, List.getElem_cons_zero, List.setIfInBounds_toArray, List.set_cons_zero, List.set_cons_succ]
          refine Go.wpAnyH_take (fuel := 10) (i := 19) (oi := _) (v := undef) rfl (by kernel_rfl) (by kernel_rfl) (by kernel_rfl) (fun _ _ _ h => h) (Or.inr ⟨by rfl, rfl⟩) (by assumption) ?_
          try simp only [Act.put, List.getElem_toArray, List.getElem_cons_succ, List.getElem_cons_zero, List.setIfInBounds_toArray, List.set_cons_zero, List.set_cons_succ]
          refine Go.wpAnyH_take (fuel := 9) (i := 20) (oi := _) (v := undef) rfl (by kernel_rfl) (by kernel_rfl) (by kernel_rfl) (fun _ _ _ h => h) (Or.inr ⟨by rfl, rfl⟩) (by assumption) ?_
          try simp only [Act.put, List.getElem_toArray, List.getElem_cons_succ, List.getElem_cons_zero, List.setIfInBounds_toArray, List.set_cons_zero, List.set_cons_succ]
          refine Go.wpAnyH_take (fuel := 8) (i := 21) (oi := _) (v := undef) rfl (by kernel_rfl) (by kernel_rfl) (by kernel_rfl) (fun _ _ _ h => h) (Or.inr ⟨by rfl, rfl⟩) (by assumption) ?_
          try simp only [Act.put, List.getElem_toArray, List.getElem_cons_succ, List.getElem_cons_zero, List.setIfInBounds_toArray, List.set_cons_zero, List.set_cons_succ]
          refine Go.wpAnyH_take (fuel := 7) (i := 22) (oi := _) (v := undef) rfl (by kernel_rfl) (by kernel_rfl) (by kernel_rfl) (fun _ _ _ h => h) (Or.inr ⟨by rfl, rfl⟩) (by assumption) ?_
          try simp only [Act.put, List.getElem_toArray, List.getElem_cons_succ, List.getElem_cons_zero, List.setIfInBounds_toArray, List.set_cons_zero, List.set_cons_succ]
          refine Go.wpAnyH_take (fuel := 6) (i := 23) (oi := _) (v := undef) rfl (by kernel_rfl) (by kernel_rfl) (by kernel_rfl) (fun _ _ _ h => h) (Or.inr ⟨by rfl, rfl⟩) (by assumption) ?_
          try simp only [Act.put, List.getElem_toArray, List.getElem_cons_succ, List.getElem_cons_zero, List.setIfInBounds_toArray, List.set_cons_zero, List.set_cons_succ]
          refine Go.wpAnyH_take (fuel := 5) (i := 24) (oi := _) (v := undef) rfl (by kernel_rfl) (by kernel_rfl) (by kernel_rfl) (fun _ _ _ h => h) (Or.inr ⟨by rfl, rfl⟩) (by assumption) ?_
          try simp only [Act.put, List.getElem_toArray, List.getElem_cons_succ, List.getElem_cons_zero, List.setIfInBounds_toArray, List.set_cons_zero, List.set_cons_succ]
          refine Go.wpAnyH_take (fuel := 4) (i := 25) (oi := _) (v := undef) rfl (by kernel_rfl) (by kernel_rfl) (by kernel_rfl) (fun _ _ _ h => h) (Or.inr ⟨by rfl, rfl⟩) (by assumption) ?_
          try simp only [Act.put, List.getElem_toArray, List.getElem_cons_succ, List.getElem_cons_zero, List.setIfInBounds_toArray, List.set_cons_zero, List.set_cons_succ]
          refine Go.wpAnyH_take (fuel := 3) (i := 26) (oi := _) (v := undef) rfl (by kernel_rfl) (by kernel_rfl) (by kernel_rfl) (fun _ _ _ h => h) (Or.inr ⟨by rfl, rfl⟩) (by assumption) ?_
          try simp only [Act.put, List.getElem_toArray, List.getElem_cons_succ, List.getElem_cons_zero, List.setIfInBounds_toArray, List.set_cons_zero, List.set_cons_succ]
          refine Go.wpAnyH_take (fuel := 2) (i := 27) (oi := _) (v := undef) rfl (by kernel_rfl) (by kernel_rfl) (by kernel_rfl) (fun _ _ _ h => h) (Or.inr ⟨by rfl, rfl⟩) (by assumption) ?_
          try simp only [Act.put, List.getElem_toArray, List.getElem_cons_succ, List.getElem_cons_zero, List.setIfInBounds_toArray, List.set_cons_zero, List.set_cons_succ]
          refine Go.wpAnyH_take (fuel := 1) (i := 28) (oi := _) (v := undef) rfl (by kernel_rfl) (by kernel_rfl) (by kernel_rfl) (fun _ _ _ h => h) (Or.inr ⟨by rfl, rfl⟩) (by assumption) ?_
          try simp only [Act.put, List.getElem_toArray, List.getElem_cons_succ, List.getElem_cons_zero, List.setIfInBounds_toArray, List.set_cons_zero, List.set_cons_succ]
          refine Go.wpAnyH_take (fuel := 0) (i := 29) (oi := _) (v := ?_) rfl (by kernel_rfl) (by kernel_rfl) (by kernel_rfl) (fun _ _ _ h => h) (Or.inl ⟨by rfl, ?_⟩) (by assumption) ?_
          rotate_left
          · (intro w hSw; (try dsimp only at hSw); go_simp)
            try with_reducible rfl
          try simp only [Act.put, List.getElem_toArray, List.getElem_cons_succ, List.getElem_cons_zero, List.setIfInBounds_toArray, List.set_cons_zero, List.set_cons_succ]
          refine Go.wpAnyH_done (by kernel_rfl) ?_ _
          go_wp2
          go_meet
          exact ⟨false, Yf, rfl, SMF, FRF, Lib.hid ⟨fun h => (nomatch h), fun _ => .inl (fun v hv => HF.out ⟨v, hv⟩)⟩⟩
      case rest =>
        obtain ⟨bb, Y2, rfl, HM3, HF3, HB3⟩ := hcut
        clear KFR KKY HFO s0 HM2 HF2
        cases bb with
        | true =>
          have hfin : SettleSays b w P F Y s K (.returned (.tuple #[])) wc := ⟨⟨_, rfl⟩, s1, Y2, K1, HST.out _ (Stl.wait HLT.out (HB3.out.1 rfl).1), HM3.out, HF3.out, hK1, fun _ => (HB3.out.1 rfl).2⟩
          have HFIN := Lib.hid hfin
          clear hfin
          go_wp2
          exact bodyPost_ret (v := .tuple #[]) (by simp [results, Try.results43, go_sem]) rfl HFIN.out
        | false =>
          have hfi := HB3.out.2 rfl
          have HFI := Lib.hid hfi
          clear hfi
          obtain ⟨bw, ow, heW, y5, y11, y12, x0, x1⟩ := HM3.out.am.five HLT.out
          obtain ⟨bw', ow', heW', hbw, _, _⟩ := HM3.out.am.weight HLT.out
          rw [heW] at heW'
          injection heW' with heW'
          injection heW' with e1 e2 _
          subst e1 e2
          have hpz : P < wc.heap.size := HM3.out.am.zs.2.2
          have hcl2 : ∀ wd : World, Below wc.heap.size wc wd → wd.cell? ⟨P, 5, none⟩ = some (.slice (some ⟨bw, ow, none⟩) F.ws.length F.cW) ∧ wd.cell? ⟨P, 11, none⟩ = some (.int .i64 s1.sp) ∧ wd.cell? ⟨P, 12, none⟩ = some (.slice Y2.AR Y2.kr Y2.cr) ∧ wd.cell? ⟨bw, ow + Y2.kr * 2, none⟩ = some (.int .i64 (cwt F.ws s1).1) ∧ wd.cell? ⟨bw, ow + Y2.kr * 2 + 1, none⟩ = some (.int .i64 (cwt F.ws s1).2) := fun wd hbd => ⟨below_cells hbd hpz y5, below_cells hbd hpz y11, below_cells hbd hpz y12, below_cells hbd hbw x0, below_cells hbd hbw x1⟩
          have kbest := best_any HOO.out (HM3.out.am.keep (Below.refl _ _).drew) (SI.chain_ HSI.out HOO.out.gd HOO.out.c1 HOO.out.tt) (SI.paths HSI.out).1 (SI.paths HSI.out).2
          have hrow := fun (W : World) (hW : Below wc.heap.size wc W) => (HM3.out.am.keep hW).rows
          have hszb := fun (W : World) (hW : Below wc.heap.size wc W) => (HM3.out.am.keep hW).size
          have hgr := fun (W W' : World) (hW : Below wc.heap.size wc W) (hg : W.grownBy W' (Value.slice Y2.AR Y2.kr Y2.cr).ownBlock) => ((HM3.out.am.keep hW).five_grown HLT.out hg heW).1
          have hfin := fun (W W' : World) (A9 : Option Addr) (k9 c9 : Nat) (co9 : Int) (path : List Int) (A' : Option Addr) (c' : Nat) (hb : Below wc.heap.size wc W) (ho : Own W wc.heap.size 3 1 ci (.slice A9 k9 c9) path) (hg : W.grownBy W' (Value.slice Y2.AR Y2.kr Y2.cr).ownBlock) (hn : Own W' b 43 5 Ara.cr (.slice A' (Y2.kr + 1) c') (Y2.RS ++ [(⟨(cwt F.ws s1).1, (cwt F.ws s1).2, A9, k9, c9, co9, s1.sp, path⟩ : RE)])) (hat : (Value.slice A' (Y2.kr + 1) c').ownBlock = (Value.slice Y2.AR Y2.kr Y2.cr).ownBlock ∨ (Value.slice A' (Y2.kr + 1) c').ownBlock = some W.heap.size) => (⟨(HM3.out.am.tell hb ho hg hn hat).1, (HM3.out.am.tell hb ho hg hn hat).2, ((HM3.out.am.keep hb).five_grown HLT.out hg heW).1.2.2.1, ((HM3.out.am.keep hb).five_grown HLT.out hg heW).2⟩ : _ ∧ _ ∧ _ ∧ _)
          have hk8 : Y2.kr ≤ 8 := by have := HM3.out.am.kr_; have := HLT.out; have := HOO.out.wl; omega
          have zk : (Y2.kr : Int) < (F.ws.length : Int) := by have := HM3.out.am.kr_; have := HLT.out; omega
          have HCL2 := Lib.hid hcl2
          have HLR := Lib.hid HM3.out.am.lenR
          have KBEST := Lib.hid kbest
          have HROW := Lib.hid hrow
          have HSZ := Lib.hid hszb
          have HGR := Lib.hid hgr
          have HFIN := Lib.hid hfin
          have s2d := hcl2 wc.drew (Below.refl _ _).drew
          clear hcl2 kbest hrow hszb hgr hfin y5 y11 y12 x0 x1 heW hbw
          go_upto_region 2 with fail
          refine SinkN.start 27 [] (fun w' => w'.cell? ⟨P, 5, none⟩ = some (.slice (some ⟨bw, ow, none⟩) F.ws.length F.cW) ∧ w'.cell? ⟨P, 11, none⟩ = some (.int .i64 s1.sp) ∧ w'.cell? ⟨P, 12, none⟩ = some (.slice Y2.AR Y2.kr Y2.cr) ∧ w'.cell? ⟨bw, ow + Y2.kr * 2, none⟩ = some (.int .i64 (cwt F.ws s1).1) ∧ w'.cell? ⟨bw, ow + Y2.kr * 2 + 1, none⟩ = some (.int .i64 (cwt F.ws s1).2)) (by kernel_rfl) ?_
          refine SinkN.AnyN.take (fuel := 27) (i := 0) (oi := _) (v := ?_) rfl (by kernel_rfl) (fun _ _ _ h => h) (Or.inl ⟨by rfl, ?_⟩) (by assumption) ?_
          rotate_left
          · (intro w hSw; (try dsimp only at hSw); go_simp)
            try with_reducible rfl
          try simp only [Act.put, List.getElem_toArray, List.getElem_cons_succ, List.getElem_cons_zero, List.setIfInBounds_toArray, List.set_cons_zero, List.set_cons_succ]
          refine SinkN.AnyN.take (fuel := 26) (i := 1) (oi := _) (v := ?_) rfl (by kernel_rfl) (fun _ _ _ h => h) (Or.inl ⟨by rfl, ?_⟩) (by assumption) ?_
          rotate_left
          · (intro w hSw; (try dsimp only at hSw); go_simp)
            try with_reducible rfl
          try simp only [Act.put, List.getElem_toArray, List.getElem_cons_succ, List.getElem_cons_zero, List.setIfInBounds_toArray, List.set_cons_zero, List.set_cons_succ]
          refine SinkN.AnyN.take (fuel := 25) (i := 2) (oi := _) (v := ?_) rfl (by kernel_rfl) (fun _ _ _ h => h) (Or.inl ⟨by rfl, ?_⟩) (by assumption) ?_
          rotate_left
          · (intro w hSw; (try dsimp only at hSw); go_simp)
            try with_reducible rfl
          try simp only [Act.put, List.getElem_toArray, List.getElem_cons_succ, List.getElem_cons_zero, List.setIfInBounds_toArray, List.set_cons_zero, List.set_cons_succ]
          refine SinkN.AnyN.take (fuel := 24) (i := 3) (oi := _) (v := ?_) rfl (by kernel_rfl) (fun _ _ _ h => h) (Or.inl ⟨by rfl, ?_⟩) (by assumption) ?_
          rotate_left
          · (intro w hSw; (try dsimp only at hSw); go_simp)
            try with_reducible rfl
          try simp only [Act.put, List.getElem_toArray, List.getElem_cons_succ, List.getElem_cons_zero, List.setIfInBounds_toArray, List.set_cons_zero, List.set_cons_succ]
          refine SinkN.AnyN.take (fuel := 23) (i := 4) (oi := _) (v := ?_) rfl (by kernel_rfl) (fun _ _ _ h => h) (Or.inl ⟨by rfl, ?_⟩) (by assumption) ?_
          rotate_left
          · (intro w hSw; (try dsimp only at hSw); go_simp)
            try with_reducible rfl
          try simp only [Act.put, List.getElem_toArray, List.getElem_cons_succ, List.getElem_cons_zero, List.setIfInBounds_toArray, List.set_cons_zero, List.set_cons_succ]
          refine SinkN.AnyN.take (fuel := 22) (i := 5) (oi := _) (v := ?_) rfl (by kernel_rfl) (fun _ _ _ h => h) (Or.inl ⟨by rfl, ?_⟩) (by assumption) ?_
          rotate_left
          · (intro w hSw; (try dsimp only at hSw); go_simp)
            try with_reducible rfl
          try simp only [Act.put, List.getElem_toArray, List.getElem_cons_succ, List.getElem_cons_zero, List.setIfInBounds_toArray, List.set_cons_zero, List.set_cons_succ]
          refine SinkN.AnyN.take (fuel := 21) (i := 6) (oi := _) (v := ?_) rfl (by kernel_rfl) (fun _ _ _ h => h) (Or.inl ⟨by rfl, ?_⟩) (by assumption) ?_
          rotate_left
          · (intro w hSw; (try dsimp only at hSw); go_simp)
            try with_reducible rfl
          try simp only [Act.put, List.getElem_toArray, List.getElem_cons_succ, List.getElem_cons_zero, List.setIfInBounds_toArray, List.set_cons_zero, List.set_cons_succ]
          refine SinkN.AnyN.take (fuel := 20) (i := 7) (oi := _) (v := ?_) rfl (by kernel_rfl) (fun _ _ _ h => h) (Or.inl ⟨by rfl, ?_⟩) (by assumption) ?_
          rotate_left
          · (intro w hSw; (try dsimp only at hSw); go_simp)
            try with_reducible rfl
          try simp only [Act.put, List.getElem_toArray, List.getElem_cons_succ, List.getElem_cons_zero, List.setIfInBounds_toArray, List.set_cons_zero, List.set_cons_succ]
          refine SinkN.AnyN.take (fuel := 19) (i := 8) (oi := _) (v := ?_) rfl (by kernel_rfl) (fun _ _ _ h => h) (Or.inl ⟨by rfl, ?_⟩) (by assumption) ?_
          rotate_left
          · (intro w hSw; (try dsimp only at hSw); go_simp)
            try with_reducible rfl
          try simp only [Act.put, List.getElem_toArray, List.getElem_cons_succ, List.getElem_cons_zero, List.setIfInBounds_toArray, List.set_cons_zero, List.set_cons_succ]
          refine SinkN.AnyN.take (fuel := 18) (i := 9) (oi := _) (v := ?_) rfl (by kernel_rfl) (fun _ _ _ h => h) (Or.inl ⟨by rfl, ?_⟩) (by assumption) ?_
          rotate_left
          · (intro w hSw; (try dsimp only at hSw); go_simp)
            try with_reducible rfl
          try simp only [Act.put, List.getElem_toArray, List.getElem_cons_succ, List.getElem_cons_zero, List.setIfInBounds_toArray, List.set_cons_zero, List.set_cons_succ]
          refine SinkN.AnyN.take (fuel := 17) (i := 10) (oi := _) (v := ?_) rfl (by kernel_rfl) (fun _ _ _ h => h) (Or.inl ⟨by rfl, ?_⟩) (by assumption) ?_
          rotate_left
          · (intro w hSw; (try dsimp only at hSw); go_simp)
            try with_reducible rfl
          try simp only [Act.put, List.getElem_toArray, List.getElem_cons_succ, List.getElem_cons_zero, List.setIfInBounds_toArray, List.set_cons_zero, List.set_cons_succ]
          refine SinkN.AnyN.take (fuel := 16) (i := 11) (oi := _) (v := ?_) rfl (by kernel_rfl) (fun _ _ _ h => h) (Or.inl ⟨by rfl, ?_⟩) (by assumption) ?_
          rotate_left
          · (intro w hSw; (try dsimp only at hSw); go_simp)
            try with_reducible rfl
          try simp only [Act.put, List.getElem_toArray, List.getElem_cons_succ, List.getElem_cons_zero, List.setIfInBounds_toArray, List.set_cons_zero, List.set_cons_succ]
          refine SinkN.AnyN.take (fuel := 15) (i := 12) (oi := _) (v := ?_) rfl (by kernel_rfl) (fun _ _ _ h => h) (Or.inl ⟨by rfl, ?_⟩) (by assumption) ?_
          rotate_left
          · (intro w hSw; (try dsimp only at hSw); go_simp)
            try with_reducible rfl
          try simp only [Act.put, List.getElem_toArray, List.getElem_cons_succ, List.getElem_cons_zero, List.setIfInBounds_toArray, List.set_cons_zero, List.set_cons_succ]
          refine SinkN.AnyN.take (fuel := 14) (i := 13) (oi := _) (v := ?_) rfl (by kernel_rfl) (fun _ _ _ h => h) (Or.inl ⟨by rfl, ?_⟩) (by assumption) ?_
          rotate_left
          · (intro w hSw; (try dsimp only at hSw); go_simp)
            try with_reducible rfl
          try simp only [Act.put, List.getElem_toArray, List.getElem_cons_succ, List.getElem_cons_zero, List.setIfInBounds_toArray, List.set_cons_zero, List.set_cons_succ]
          refine SinkN.AnyN.take (fuel := 13) (i := 14) (oi := _) (v := ?_) rfl (by kernel_rfl) (fun _ _ _ h => h) (Or.inl ⟨by rfl, ?_⟩) (by assumption) ?_
          rotate_left
          · (intro w hSw; (try dsimp only at hSw); go_simp)
            try with_reducible rfl
          try simp only [Act.put, List.getElem_toArray, List.getElem_cons_succ, List.getElem_cons_zero, List.setIfInBounds_toArray, List.set_cons_zero, List.set_cons_succ]
          refine SinkN.AnyN.take (fuel := 12) (i := 15) (oi := _) (v := ?_) rfl (by kernel_rfl) (fun _ _ _ h => h) (Or.inl ⟨by rfl, ?_⟩) (by assumption) ?_
          rotate_left
          · (intro w hSw; (try dsimp only at hSw); go_simp)
            try with_reducible rfl
          try simp only [Act.put, List.getElem_toArray, List.getElem_cons_succ, List.getElem_cons_zero, List.setIfInBounds_toArray, List.set_cons_zero, List.set_cons_succ]
          refine SinkN.AnyN.take (fuel := 11) (i := 16) (oi := _) (v := ?_) rfl (by kernel_rfl) (fun _ _ _ h => h) (Or.inl ⟨by rfl, ?_⟩) (by assumption) ?_
          rotate_left
          · (intro w hSw; (try dsimp only at hSw); go_simp)
            try with_reducible rfl
          try simp only [Act.put, List.getElem_toArray, List.getElem_cons_succ, List.getElem_cons_zero, List.setIfInBounds_toArray, List.set_cons_zero, List.set_cons_succ]
          refine SinkN.AnyN.take (fuel := 10) (i := 17) (oi := _) (v := ?_) rfl (by kernel_rfl) (fun _ _ _ h => h) (Or.inl ⟨by rfl, ?_⟩) (by assumption) ?_
          rotate_left
          · (intro w hSw; (try dsimp only at hSw); go_simp)
            try with_reducible rfl
          try simp only [Act.put, List.getElem_toArray, List.getElem_cons_succ, List.getElem_cons_zero, List.setIfInBounds_toArray, List.set_cons_zero, List.set_cons_succ]
          refine SinkN.AnyN.take (fuel := 9) (i := 18) (oi := _) (v := ?_) rfl (by kernel_rfl) (fun _ _ _ h => h) (Or.inl ⟨by rfl, ?_⟩) (by assumption) ?_
          rotate_left
          · (intro w hSw; (try dsimp only at hSw); go_simp)
            try with_reducible rfl
          try simp only [Act.put, List.getElem_toArray, List.getElem_cons_succ, List.getElem_cons_zero, List.setIfInBounds_toArray, List.set_cons_zero, List.set_cons_succ]
          refine SinkN.AnyN.take (fuel := 8) (i := 19) (oi := _) (v := ?_) rfl (by kernel_rfl) (fun _ _ _ h => h) (Or.inl ⟨by rfl, ?_⟩) (by assumption) ?_
          rotate_left
          · (intro w hSw; (try dsimp only at hSw); go_simp)
            try with_reducible rfl
          try simp only [Act.put, List.getElem_toArray, List.getElem_cons_succ, List.getElem_cons_zero, List.setIfInBounds_toArray, List.set_cons_zero, List.set_cons_succ]
          refine SinkN.AnyN.take (fuel := 7) (i := 20) (oi := _) (v := ?_) rfl (by kernel_rfl) (fun _ _ _ h => h) (Or.inl ⟨by rfl, ?_⟩) (by assumption) ?_
          rotate_left
          · (intro w hSw; (try dsimp only at hSw); go_simp)
            try with_reducible rfl
          try simp only [Act.put, List.getElem_toArray, List.getElem_cons_succ, List.getElem_cons_zero, List.setIfInBounds_toArray, List.set_cons_zero, List.set_cons_succ]
          refine SinkN.AnyN.ready_ (fuel := 6) (rs := [21]) (by kernel_rfl) (by simp) ?_
          refine SinkN.AllN.cons (o := _) rfl (fun K hK => ?_) SinkN.AllN.nil
          have HKX := Lib.hid hK
          clear hK
          go_simp
          go_at_call 60
          refine KBEST.out.mono ?_
          rintro e w9 ⟨A9, k9, c9, path9, co9, rfl, own9, hlp9, hk9, hbest9, hb9⟩
          have hb9' := (Below.refl wc.heap.size wc).drew.trans (hb9.mono (Nat.le_refl _))
          have s9 := HCL2.out _ hb9'
          have HBEST9 := Lib.hid hbest9
          have HB9 := Lib.hid hb9'
          have HO9 := Lib.hid (own9.mono (base' := wc.heap.size) (Nat.le_refl _))
          have HL9 := Lib.hid hlp9
          clear hbest9 hb9 hb9' own9 hlp9
          refine HKX.out.out _ _ (.inr s9) ?_
          clear HKX
          try simp only [Act.put, List.getElem_toArray, List.getElem_cons_succ, List.getElem_cons_zero, List.setIfInBounds_toArray, List.set_cons_zero, List.set_cons_succ]
          refine SinkN.AnyN.take (fuel := 5) (i := 22) (oi := _) (v := ?_) rfl (by kernel_rfl) (fun _ _ _ h => h) (Or.inl ⟨by rfl, ?_⟩) (by assumption) ?_
          rotate_left
          · (intro w hSw; (try dsimp only at hSw); go_simp)
            try with_reducible rfl
          try simp only [Act.put, List.getElem_toArray, List.getElem_cons_succ, List.getElem_cons_zero, List.setIfInBounds_toArray, List.set_cons_zero, List.set_cons_succ]
          refine SinkN.AnyN.ready_ (fuel := 4) (rs := [23]) (by kernel_rfl) (by simp) ?_
          refine SinkN.AllN.cons (o := _) rfl (fun K hK => ?_) SinkN.AllN.nil
          have HKX := Lib.hid hK
          clear hK
          go_simp
          have hba := HB9.out.trans (((Below.refl w9.heap.size w9).alloc (Nat.le_refl _) (.cells #[.int .i64 (cwt F.ws s1).1, .int .i64 (cwt F.ws s1).2, .slice A9 k9 c9, .int .i64 co9, .int .i64 s1.sp] 43)).mono HB9.out.size)
          have s10 := HCL2.out _ hba
          have hbx := heap_alloc_new w9 (.cells #[.int .i64 (cwt F.ws s1).1, .int .i64 (cwt F.ws s1).2, .slice A9 k9 c9, .int .i64 co9, .int .i64 s1.sp] 43)
          have HBA := Lib.hid hba
          clear hba
          refine HKX.out.out _ _ (.inr s10) ?_
          clear HKX
          try simp only [Act.put, List.getElem_toArray, List.getElem_cons_succ, List.getElem_cons_zero, List.setIfInBounds_toArray, List.set_cons_zero, List.set_cons_succ]
          refine SinkN.AnyN.ready_ (fuel := 3) (rs := [24]) (by kernel_rfl) (by simp) ?_
          refine SinkN.AllN.cons (o := _) rfl (fun K hK => ?_) SinkN.AllN.nil
          have HKX := Lib.hid hK
          clear hK
          refine step_push _ rfl (.tmp 39) (.tmp 58) _ rfl b 43 i0 _ 5 56 Ara.cr Try.underlying59 hi hz0 hz1 hz2 hz3 (by decide) _ Y2.RS Y2.kr HLR.out rfl (HROW.out _ HBA.out) w9.heap.size 1 (⟨(cwt F.ws s1).1, (cwt F.ws s1).2, A9, k9, c9, co9, s1.sp, path9⟩ : RE) rfl (news5 hbx) (fun _ _ => one_cr _ _) (by omega) (by omega) (HSZ.out _ HBA.out) ?_
          intro A10 c10 w10 hown10 hgrow10 hat10
          have s11 := HGR.out _ _ HBA.out hgrow10
          obtain ⟨am11, fr11, c12, f12, l12⟩ := HFIN.out _ _ _ _ _ _ _ _ _ HBA.out (HO9.out.alloc _) hgrow10 hown10 hat10
          have AM11 := Lib.hid am11
          have FR11 := Lib.hid fr11
          clear am11 fr11 hgrow10 hown10 hat10
          refine HKX.out.out _ _ (.inr s11) ?_
          clear HKX
          try simp only [Act.put, List.getElem_toArray, List.getElem_cons_succ, List.getElem_cons_zero, List.setIfInBounds_toArray, List.set_cons_zero, List.set_cons_succ]
          refine SinkN.AnyN.take (fuel := 2) (i := 25) (oi := _) (v := ?_) rfl (by kernel_rfl) (fun _ _ _ h => h) (Or.inl ⟨by rfl, ?_⟩) (by assumption) ?_
          rotate_left
          · (intro w hSw; (try dsimp only at hSw); go_simp)
            try with_reducible rfl
          try simp only [Act.put, List.getElem_toArray, List.getElem_cons_succ, List.getElem_cons_zero, List.setIfInBounds_toArray, List.set_cons_zero, List.set_cons_succ]
          refine SinkN.AnyN.take (fuel := 1) (i := 26) (oi := _) (v := ?_) rfl (by kernel_rfl) (fun _ _ _ h => h) (Or.inl ⟨by rfl, ?_⟩) (by assumption) ?_
          rotate_left
          · (intro w hSw; (try dsimp only at hSw); go_simp)
            try with_reducible rfl
          try simp only [Act.put, List.getElem_toArray, List.getElem_cons_succ, List.getElem_cons_zero, List.setIfInBounds_toArray, List.set_cons_zero, List.set_cons_succ]
          refine SinkN.AnyN.ready_ (fuel := 0) (rs := [27]) (by kernel_rfl) (by simp) ?_
          refine SinkN.AllN.cons (o := _) rfl (fun K hK => ?_) SinkN.AllN.nil
          have HKX := Lib.hid hK
          clear hK
          go_simp
          refine HKX.out.out _ _ (.inl (by decide)) ?_
          clear HKX
          try simp only [Act.put, List.getElem_toArray, List.getElem_cons_succ, List.getElem_cons_zero, List.setIfInBounds_toArray, List.set_cons_zero, List.set_cons_succ]
          refine SinkN.AnyN.done (by kernel_rfl) ?_
          generalize w10.setCell ⟨P, 12, none⟩ (.slice A10 (Y2.kr + 1) c10) = w11 at AM11 FR11 ⊢
          clear c12 f12 l12 s2d HCL2 KBEST HROW HSZ HGR HFIN
          have kov2 := isover_any AM11.out
          have hel : (told F.ws (path9, co9) s1).rds.length = s1.rds.length + 1 := by simp [told]
          rw [hel] at kov2
          have HEL := Lib.hid hel
          have KOV2 := Lib.hid kov2
          clear kov2 hel
          go_wp2_with fail
          refine KOV2.out.mono ?_
          rintro e w12 ⟨rfl, kk2, rfl⟩
          have AM12 := Lib.hid (AM11.out.keep (below_drewN (Below.refl _ _) kk2))
          have FR12 := Lib.hid (HF3.out.trans (FR11.out.drewN kk2))
          clear AM11 FR11 KOV2
          generalize w11.drewN kk2 = w12 at AM12 FR12 ⊢
          by_cases hl1 : s1.rds.length + 1 = F.ws.length
          · have hd : decide (s1.rds.length + 1 = F.ws.length) = true := decide_eq_true hl1
            have hsi := SI.last_ HOO.out HPP.out HSI.out hl1 HFI.out HBEST9.out
            have hst : ∀ s', Stl F.n F.tt F.l F.h F.ws (told F.ws (path9, co9) s1) s' → Stl F.n F.tt F.l F.h F.ws s s' := fun s' h => by
              rw [h.det (Stl.over (by rw [HEL.out]; exact hl1))]
              exact HST.out _ (Stl.last hl1 HFI.out HBEST9.out)
            have hsm : SM b w12 P F _ (told F.ws (path9, co9) s1) K1 := ⟨AM12.out, fun h => absurd h (by rw [HEL.out]; omega), HM3.out.cb⟩
            have hrl := rlen_eq AM12.out
            have HRR := Lib.hid hrl
            have SIH := Lib.hid hsi
            have STH := Lib.hid hst
            have SMH := Lib.hid hsm
            rw [hd]
            have HL1 := Lib.hid hl1
            clear hsi hst hsm hrl hd hl1
            go_wp2
            go_roundw
            case rel => exact ⟨_, _, K1, SMH, FR12, SIH, hK1, STH⟩
            case measure => have h1 := HRR.out; have h2 := HEL.out; have h3 := HRL.out; have h4 := HL1.out; omega
          · have hd : decide (s1.rds.length + 1 = F.ws.length) = false := decide_eq_false hl1
            have hl2 : s1.rds.length + 1 < F.ws.length := by have := HLT.out; omega
            have hsi := SI.next_ HOO.out HPP.out HSI.out hl2 HFI.out HBEST9.out
            have hst : ∀ s', Stl F.n F.tt F.l F.h F.ws (AraLaw.again (told F.ws (path9, co9) s1)) s' → Stl F.n F.tt F.l F.h F.ws s s' := fun s' h => HST.out _ (Stl.next hl2 HFI.out HBEST9.out h)
            have hhr := HM3.out.hr HLT.out
            have hhr2 : HR F (Y2.rows' A10 (Y2.kr + 1) c10 (Y2.RS ++ [(⟨(cwt F.ws s1).1, (cwt F.ws s1).2, A9, k9, c9, co9, s1.sp, path9⟩ : RE)])) (told F.ws (path9, co9) s1) (cwt F.ws s1) K1 := ⟨hhr.mem, hhr.ids, hhr.od, hhr.late, hhr.lr, hhr.bm, hhr.bl⟩
            have kag := again_any HOO.out AM12.out hhr2 HM3.out.cb (by rw [HEL.out]; exact hl2) (by omega)
            have KAG := Lib.hid kag
            have SIH := Lib.hid hsi
            have STH := Lib.hid hst
            rw [hd]
            have HL2 := Lib.hid hl2
            clear hsi hst hhr hhr2 kag hd hl1 hl2
            go_wp2_with fail
            refine KAG.out.mono ?_
            rintro e w13 ⟨⟨r13, rfl⟩, Y13, sm13, fr13⟩
            have hrl := rlen_eq sm13.am
            have HRR : Hid (rlen w13 P = s1.rds.length + 1) := Lib.hid (by rw [hrl, ← HEL.out]; rfl)
            have SMH := Lib.hid sm13
            have FRH := Lib.hid (FR12.out.trans fr13)
            clear hrl sm13 fr13 KAG
            go_wp2
            go_roundw
            case rel => exact ⟨_, _, 64, SMH, FRH, SIH, by omega, STH⟩
            case measure => have h1 := HRR.out; have h3 := HRL.out; have h4 := HL2.out; omega
end
end Go.Proofs.Ytpoolpaagbeokaa.Ara

namespace Go.Proofs.Ytpoolpaagbeokaa.Ara
open Go.RowKit Go.Proofs.Ytpoolpaagbeokaa NetLaw BellLaw StarLaw AraLaw Go.Proofs.Ytpoolpaagbeokaa.Net Go.Proofs.Ytpoolpaagbeokaa.Std Go.Proofs.Ytpoolpaagbeokaa.Flow
open Go.Proofs.Ytpoolpaagbeokaa.HeapP (HeapAt d0 ltP ltP_ord)
open Go.Proofs.Ytpoolpaagbeokaa.Dijk (td ol_mem)
set_option linter.unusedSimpArgs false
set_option linter.unusedVariables false
theorem tdA_ol (l : List E) (v : Nat) : td l (ol l l.length v) = oe l v := by
  have h := oe_take (l := l) (v := (v : Int)) l.length
  rw [if_pos (Nat.le_refl _), List.take_length] at h
  rw [← h]
  unfold td ol
  rw [List.map_map]
  refine List.map_congr_left fun i _ => ?_
  simp
theorem tdA_take {l : List E} {r : List Int} {j i : Nat} (hj : j < r.length) (hi : r[j] = (i : Int)) (hil : i < l.length) : td l (r.take (j + 1)) = td l (r.take j) ++ [l[i]] := by
  rw [List.take_add_one, List.getElem?_eq_getElem hj, td, List.map_append, hi]
  simp [td, List.getD_eq_getElem?_getD, List.getElem?_eq_getElem hil]
/-- the state while the edges that leave a place are gone through -/
def sj (F : Fix) (v : Nat) (es : List E) (s : AS) : AS := es.foldl (fun s e => reach1 F.h e.2.1 (dg s.C v + e.2.2) v s) (AraLaw.mark v s)
theorem sj_snoc (F : Fix) (v : Nat) (es : List E) (e : E) (s : AS) : sj F v (es ++ [e]) s = reach1 F.h e.2.1 (dg (sj F v es s).C v + e.2.2) v (sj F v es s) := by
  unfold sj
  rw [List.foldl_append]
  rfl
theorem sj_rds (F : Fix) (v : Nat) (es : List E) (s : AS) : (sj F v es s).rds = s.rds := by
  suffices h : ∀ (es : List E) (s' : AS), (es.foldl (fun s e => reach1 F.h e.2.1 (dg s.C v + e.2.2) v s) s').rds = s'.rds from h es _
  intro es
  induction es with
  | nil => intro s'; rfl
  | cons e es ih => intro s'; rw [List.foldl_cons, ih, (reach1_rds ..).1]
/-- a search behind so many steps, in memory -/
structure SR (b : Nat) (w : World) (P : Nat) (F : Fix) (Y : Var) (fr k : Nat) (s : AS) : Prop where
  run : Rn F.n F.tt F.l F.h F.ws fr k s
  sm : SM b w P F Y s (1100 * (k + 1))
  top : Top F Y s
section
variable {b : Nat} {w w' : World} {P : Nat} {F : Fix} {Y : Var} {s : AS} {K fr k : Nat}
theorem SR.keep (h : SR b w P F Y fr k s) (hb : Below w.heap.size w w') : SR b w' P F Y fr k s := ⟨h.run, h.sm.keep hb, h.top⟩
theorem SR.si (h : SR b w P F Y fr k s) (hO : FO F) (hP : PO F fr) : AraLaw.SI F.n fr F.tt F.l F.h F.ws s := h.run.si hP.cons hO.gd hO.c1 hP.fr hO.tt hO.wl hP.ws
theorem SR.short (h : SR b w P F Y fr k s) (hO : FO F) (hP : PO F fr) (hr : s.rds.length < F.ws.length) : k ≤ 1000 := h.run.short hP.cons hO.gd hO.c1 hP.fr hO.tt hO.wl hP.ws hr
/-- what Step answers -/
def StepSays (b : Nat) (w : World) (P : Nat) (F : Fix) (Y : Var) (fr k : Nat) (x : Int) (e : Ending) (w' : World) : Prop :=
  ∃ (j : Nat) (s' : AS) (Y' : Var), e = .returned (.int .i64 j) ∧ SR b w' P F Y' fr (k + j) s' ∧ Fr P F Y Y' w w' ∧ ((j : Int) ≤ x ∨ j = 0) ∧ ((j : Int) < x → s'.rds.length = F.ws.length)
set_option maxRecDepth 100000 in
set_option maxHeartbeats 16000000 in
theorem step_any (hO : FO F) (hP : PO F fr) (h : SR b w P F Y fr k s) (x : Int) (hx : x ≤ 9223372036854775807) :
    Calls Try.prog 18 #[.pointer (some ⟨P, 0, none⟩), .int .i64 x] w fun e w' => StepSays b w P F Y fr k x e w' := by
  have SR0 := Lib.hid h
  have HOO := Lib.hid hO
  have HPP := Lib.hid hP
  clear h hO hP
  go_enter Try.func18, Try.ntmps18
  go_wp2
  go_loopw [5] (fun i wr => ∃ (j : Nat) (s1 : AS) (Y1 : Var), i = .int .i64 j ∧ ((j : Int) ≤ x ∨ j = 0) ∧ Hid (SR b wr P F Y1 fr (k + j) s1) ∧ Hid (Fr P F Y Y1 w wr)) (fun i _ => x.toNat - (intOf i).toNat)
  case atStart => exact ⟨0, s, Y, rfl, .inr rfl, SR0, Lib.hid (Fr.refl _ _ _ _)⟩
  case round =>
    obtain ⟨j, s1, Y1, rfl, hjx, HM, HF⟩ := hrel
    clear SR0
    by_cases hlt : (j : Int) < x
    · have kov := isover_any HM.out.sm.am
      have KOV := Lib.hid kov
      clear kov
      go_wp2_with fail
      refine KOV.out.mono ?_
      rintro e w2 ⟨rfl, kk, rfl⟩
      have HM2 := Lib.hid (HM.out.keep (below_drewN (Below.refl _ _) kk))
      have HF2 := Lib.hid (HF.out.drewN kk)
      clear HM HF KOV
      generalize wr.drewN kk = w2 at HM2 HF2 ⊢
      by_cases hov : s1.rds.length = F.ws.length
      · have hd : decide (s1.rds.length = F.ws.length) = true := decide_eq_true hov
        have hfin : StepSays b w P F Y fr k x (.returned (.int .i64 j)) w2 := ⟨j, s1, Y1, rfl, HM2.out, HF2.out, hjx, fun _ => hov⟩
        have HFIN := Lib.hid hfin
        rw [hd]
        clear hfin hov hd
        go_wp2
        go_ret
        exact HFIN.out
      · have hd : decide (s1.rds.length = F.ws.length) = false := decide_eq_false hov
        have hl : s1.rds.length < F.ws.length := by have := (SI.paths (HM2.out.si HOO.out HPP.out)).2; omega
        have HL := Lib.hid hl
        rw [hd]
        clear hov hd hl
        have hkj : k + j ≤ 1000 := HM2.out.short HOO.out HPP.out HL.out
        obtain ⟨htop0, htop1⟩ := HM2.out.top HL.out
        obtain ⟨m', hm'⟩ : ∃ m', Y1.m = m' + 1 := ⟨Y1.m - 1, by omega⟩
        have hhr := HM2.out.sm.hr HL.out
        have kpop := HM2.out.sm.am.pop hm' (by have := hhr.bm; omega)
        have hnx := HM2.out.sm.nx HL.out ⟨htop0, htop1⟩
        obtain ⟨_, ⟨_, _, _, _, z10, _, _⟩, zp⟩ := HM2.out.sm.am.zs
        have hsp := HM2.out.run.sp
        have KPOP := Lib.hid kpop
        have HNX := Lib.hid hnx
        have HHR := Lib.hid hhr
        have HMM := Lib.hid hm'
        have HSP := Lib.hid hsp
        clear kpop hnx hhr hm' htop0 htop1 hsp
        have hfd : ∀ (a g x : Int) (w : World), (Instr.field 101 (.agg #[.int .i64 a, .int .i64 g, .int .i64 x]) 2).run Try.prog w = .ok (.int .i64 x) w := fun _ _ _ _ => by kernel_rfl
        go_wp2_with fail
        refine KPOP.out.mono ?_
        rintro e w3 ⟨a, g, v, L2, rfl, hg0, hpm, am3, fr3⟩
        have hnv := HNX.out.1
        rw [hg0] at hnv
        simp only at hnv
        obtain ⟨v0, v1⟩ := hnv.1.1
        obtain ⟨v, rfl⟩ := Int.eq_ofNat_of_zero_le v0
        have hvn : v < F.n := by omega
        have hr3 := HHR.out.take (A := Y1.Ah) (c := Y1.ch) am3.lenD HMM.out hpm ⟨v0, v1⟩ rfl
        have hww : IntKind.i64.wrap (s1.sp + 1) = s1.sp + 1 := IntWalk.i64_in _ (by have := HSP.out; omega)
        obtain ⟨_, ⟨_, _, z8, _, _, z11, _⟩, zp3⟩ := am3.zs
        obtain ⟨_, f11, _⟩ := am3.free
        obtain ⟨d1, d2⟩ := am3.cellD hvn
        have n1 : P ≠ F.SD := blk_ne am3.z (own_blk am3.done).choose_spec (by decide)
        have n2 : F.SD ≠ P := fun e => n1 e.symm
        have am4 : AM b ((w3.setCell ⟨F.SD, v, none⟩ (.bool true)).setCell ⟨P, 11, none⟩ (.int .i64 (s1.sp + 1))) P F (Y1.heap' Y1.Ah m' Y1.ch L2) (AraLaw.mark v s1) := ((am3.setD hvn true).setS (s1.sp + 1)).congr rfl rfl rfl rfl rfl
        have fr4 := (fr3.set (p := ⟨F.SD, v, none⟩) (.inl (.inr (.inr (.inr (.inl rfl))))) (.bool true)).set (p := ⟨P, 11, none⟩) (.inl (.inl rfl)) (.int .i64 (s1.sp + 1))
        have sm4 : SM b ((w3.setCell ⟨F.SD, v, none⟩ (.bool true)).setCell ⟨P, 11, none⟩ (.int .i64 (s1.sp + 1))) P F (Y1.heap' Y1.Ah m' Y1.ch L2) (sj F v (td F.l ((ol F.l F.l.length v).take 0)) s1) (1100 * (k + j + 1) + 0) := ⟨am4, fun _ => hr3, HM2.out.sm.cb⟩
        have SM4 := Lib.hid sm4
        have FR4 := Lib.hid fr4
        have HNV := Lib.hid hnv
        have zv : (v : Int) < (F.n : Int) := v1
        clear sm4 fr4 am4 am3 fr3 hpm hr3 hg0 hnv z10 zp KPOP v0 v1
        go_upto_region 7 with fail
        generalize (w3.setCell ⟨F.SD, v, none⟩ (.bool true)).setCell ⟨P, 11, none⟩ (.int .i64 (s1.sp + 1)) = w4 at SM4 FR4 ⊢
        clear z8 z11 zp3 f11 d1 d2 n1 n2 hww hfd
        obtain ⟨⟨_, _, z2, _, _, _⟩, _, zp⟩ := SM4.out.am.zs
        obtain ⟨tc, _⟩ := SM4.out.am.tab.cell hvn
        have htl := SM4.out.am.tab.lt
        obtain ⟨Kq, hKq⟩ : ∃ Kq, (ol F.l F.l.length v).length = Kq := ⟨_, rfl⟩
        rw [hKq] at tc
        have hK6 : Kq ≤ 600 := by rw [← hKq]; exact Nat.le_trans (ol_len _ _ _) HOO.out.gd.len
        have HKQ := Lib.hid hKq
        clear hKq
        go_wp2
        go_loopw [47] (fun i wy => ∃ (q : Nat) (Y6 : Var), i = .int .i64 q ∧ q ≤ Kq ∧ Hid (SM b wy P F Y6 (sj F v (td F.l ((ol F.l F.l.length v).take q)) s1) (1100 * (k + j + 1) + q)) ∧ Hid (Fr P F Y1 Y6 w2 wy)) (fun i _ => Kq - (intOf i).toNat)
        case atStart => exact ⟨0, _, rfl, Nat.zero_le _, SM4, FR4⟩
        case round =>
          obtain ⟨q, Y6, rfl, hq, HM6, HF6⟩ := hrel
          clear SM4 FR4 z2 zp tc htl
          by_cases hltq : q < Kq
          · have hql : q < (ol F.l F.l.length v).length := by rw [HKQ.out]; exact hltq
            have hown := HM6.out.am.tab.own v hvn
            obtain ⟨bq, oq, hA, hbq, hcq⟩ := hown.sl.2.atI hql
            obtain ⟨i, hi, hil, hiv⟩ := ol_mem (List.getElem_mem hql)
            rw [hi] at hcq
            obtain ⟨be, oe', f, t, co, hAE, hbe, he, hcf, hct, hcc⟩ := HM6.out.am.net.sl.2.atE hil
            have hel := List.getElem_mem hil
            rw [he] at hel
            obtain ⟨_, _, t0, t1⟩ := HOO.out.gd.ends _ hel
            have hco := HOO.out.gd.cost _ hel
            have hco1 := HOO.out.c1 _ hel
            simp only at t0 t1 hco hco1
            obtain ⟨t, rfl⟩ := Int.eq_ofNat_of_zero_le t0
            have htn : t < F.n := by omega
            have htd := tdA_take hql hi hil
            rw [he] at htd
            have hsn := sj_snoc F v (td F.l ((ol F.l F.l.length v).take q)) (f, (t : Int), co) s1
            rw [← htd] at hsn
            simp only at hsn
            have hrd := sj_rds F v (td F.l ((ol F.l F.l.length v).take q)) s1
            have hcb := HM6.out.cb v (by omega) (by omega)
            generalize hsq : sj F v (td F.l ((ol F.l F.l.length v).take q)) s1 = sq at HM6 hsn hrd hcb
            have hrq : sq.rds.length < F.ws.length := by rw [hrd]; exact HL.out
            obtain ⟨⟨z0, z1, _, _, _, _⟩, _, zp⟩ := HM6.out.am.zs
            have zq : (q : Int) < (Kq : Int) := by omega
            have zi : (i : Int) < (F.l.length : Int) := by omega
            have HSN := Lib.hid hsn
            have HRQ := Lib.hid hrq
            have HCB := Lib.hid hcb
            have HCO := Lib.hid (And.intro hco hco1)
            clear hql hown hi he hel hco hco1 htd hsn hrd hcb hsq hrq hiv t0 t1 hil
            go_upto_region 11 with fail
            have hb7 : Below wr.heap.size wr (wr.alloc (.cells #[.int .i64 f, .int .i64 t, .int .i64 co] 110)) := (Below.refl _ _).alloc (Nat.le_refl _) _
            have hbx := heap_alloc_new wr (.cells #[.int .i64 f, .int .i64 t, .int .i64 co] 110)
            have HM7 := Lib.hid (HM6.out.keep hb7)
            have HF7 := Lib.hid (HF6.out.below hb7)
            generalize wr.alloc (.cells #[.int .i64 f, .int .i64 t, .int .i64 co] 110) = w7 at HM7 HF7 hbx ⊢
            generalize wr.heap.size = X at hbx ⊢
            clear z0 z1 zp hA hbq hcq hAE hbe hcf hct hcc HM6 HF6 hb7
            obtain ⟨_, ⟨z6, _, _, _, _, _, _⟩, zp⟩ := HM7.out.am.zs
            obtain ⟨cv, _⟩ := HM7.out.am.cellC hvn
            have x1 := blk_cell hbx 1
            have x2 := blk_cell hbx 2
            have zX := lt_of_block hbx
            have zC := (HM7.out.am.cost.base_ F.SC rfl).2
            simp only [List.getElem?_toArray, List.getElem?_cons_zero, List.getElem?_cons_succ] at x1 x2
            have hww2 : IntKind.i64.wrap (dg sq.C v + co) = dg sq.C v + co := IntWalk.i64_in _ (by have := HCB.out; have := HCO.out; unfold far at *; omega)
            have kre := reach_any HOO.out (HM7.out.keep (Below.refl _ _).drew) HRQ.out (by omega) htn (c := dg sq.C v + co) (u := (v : Int)) (by have := HCB.out; have := HCO.out; omega) (by have := HCB.out; have := HCO.out; unfold far at *; omega)
            rw [← HSN.out] at kre
            have KRE := Lib.hid kre
            clear kre hbx HSN
            generalize dg sq.C (v : Int) = cc at *
            go_still_tail 14, (by kernel_rfl)
            change wpList _ _ _ _ _ w7.drew
            have HF8 := Lib.hid HF7.out.drew
            clear HM7 HF7 x1 x2 zX zC z6 zp cv
            generalize w7.drew = w8 at KRE HF8 ⊢
            go_wp2_with fail
            refine KRE.out.mono ?_
            rintro e w9 ⟨⟨r9, rfl⟩, Y9, sm9, fr9⟩
            have SM9 := Lib.hid sm9
            have FR9 := Lib.hid (HF8.out.trans fr9)
            clear sm9 fr9 KRE HF8
            go_wp2
            go_roundw
            case rel => exact ⟨q + 1, Y9, by go_num, hltq, SM9, FR9⟩
            case measure => simp [intOf]; omega
          · obtain rfl : q = Kq := by omega
            have hex : sj F v (td F.l ((ol F.l F.l.length v).take q)) s1 = AraLaw.expand F.l F.h v s1 := by
              rw [← HKQ.out, List.take_length, tdA_ol]
              rfl
            have hsi := (HM2.out.si HOO.out HPP.out).look_ HPP.out.cons HOO.out.gd HOO.out.c1 HPP.out.fr HOO.out.wl HPP.out.ws HL.out HNV.out
            have sm6 := HM6.out
            rw [hex] at sm6
            have kse := settle_any HOO.out HPP.out sm6 hsi (by omega)
            have KSE := Lib.hid kse
            have HHX := Lib.hid hex
            have zq : ¬ ((q : Int) < (q : Int)) := by omega
            have hwj : IntKind.i64.wrap ((j : Int) + 1) = (j : Int) + 1 := IntWalk.i64_in _ (by omega)
            clear hex hsi sm6 kse
            go_wp2_with fail
            refine KSE.out.mono ?_
            rintro e w9 ⟨⟨r9, rfl⟩, s9, Y9, K9, hst9, sm9, fr9, hK9, htop9⟩
            have hsr : SR b w9 P F Y9 fr (k + (j + 1)) s9 := ⟨Rn.step HM2.out.run HL.out HNV.out hst9, sm9.more (by omega), htop9⟩
            have HSR := Lib.hid hsr
            have HFR := Lib.hid (HF2.out.trans (HF6.out.trans fr9))
            clear hst9 sm9 fr9 hsr KSE htop9
            go_wp2
            go_roundw
            case rel => exact ⟨j + 1, s9, Y9, by go_num, .inl (by omega), HSR, HFR⟩
            case measure => simp [intOf]; omega
    · have hfin : StepSays b w P F Y fr k x (.returned (.int .i64 j)) wr := ⟨j, s1, Y1, rfl, HM.out, HF.out, hjx, fun h => absurd h hlt⟩
      have HFIN := Lib.hid hfin
      clear hfin
      go_wp2
      go_ret
      exact HFIN.out
end
end Go.Proofs.Ytpoolpaagbeokaa.Ara
