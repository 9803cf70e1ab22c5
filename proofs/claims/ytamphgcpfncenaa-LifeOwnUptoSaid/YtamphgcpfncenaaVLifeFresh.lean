/- The walk of (*life.Plan).fresh. -/
import Derived.Test.YtamphgcpfncenaaVLifeKey
import Derived.BigRegion
import Derived.BigQuiet
import Derived.Deep.CutRange
import Derived.Deep.RegionHeld3
namespace Go.Proofs.Ytamphgcpfncenaa.Life
open Go.RowKit Go.Proofs.Ytamphgcpfncenaa NetLaw BellLaw FlowLaw LifeLaw Go.Proofs.Ytamphgcpfncenaa.Net Go.Proofs.Ytamphgcpfncenaa.Std Go.Proofs.Ytamphgcpfncenaa.Flow
open Go.Proofs.Ytamphgcpfncenaa.Heap (Kp Kp.refl Kp.below Kp.alloc Kp.drew Kp.setCell Kp.grown Kp.to fnOf)
open Go.Proofs.Ytamphgcpfncenaa.HeapS (HeapAt d0 ltP ltP_ord)
set_option linter.unusedSimpArgs false
set_option linter.unusedVariables false
/-- what fresh leaves waiting -/
structure Thin (D R : List Int) (L L' : List Sp) : Prop where
  sub : ∀ x ∈ L', x ∈ L
  kept : ∀ x ∈ L, frsh D R x → x ∈ L'
theorem Thin.refl (D R : List Int) (L : List Sp) : Thin D R L L := ⟨fun _ h => h, fun _ h _ => h⟩
theorem Thin.pop {D R : List Int} {L L' L2 : List Sp} {x : Sp} (h : Thin D R L L') (hp : (x :: L2).Perm L') (hx : ¬ frsh D R x) : Thin D R L L2 :=
  ⟨fun y hy => h.sub y (hp.subset (List.mem_cons_of_mem _ hy)), fun y hy hf => (List.mem_cons.1 (hp.symm.subset (h.kept y hy hf))).elim (fun e => absurd (by rw [← e]; exact hf) hx) id⟩
/-- how much waits -/
def hlen (w : World) (H : Nat) : Nat := match w.cell? ⟨H, 1, none⟩ with | some (.slice _ n _) => n | _ => 0
theorem hlen_eq {w : World} {base H n c : Nat} {fn : Value} {A : Option Addr} {L : List Sp} (h : HeapAt w base H fn A n c L) : hlen w H = n := by
  have c1 := blk_cell h.blk 1
  simp only [List.getElem?_toArray, List.getElem?_cons_zero, List.getElem?_cons_succ] at c1
  unfold hlen
  rw [c1]
/-- what fresh answers -/
def FreshSays (w0 : World) (n s t P M : Nat) (AE : Option Addr) (cE TI TO : Nat) (FI FO : Nat → Option Addr × Nat) (SC cC SL cL H : Nat) (l : List E) (D R : List Int) (Aw : Option Addr) (mw cw : Nat) (L : List Sp) (wk : Int) (w1 : World) (e : Ending) (w' : World) : Prop :=
  ∃ b Aw' mw' cw' L', e = .returned (.bool b) ∧ Hid (LM w0 w' n s t P M AE cE TI TO FI FO SC cC SL cL H l D R Aw' mw' cw' L' wk) ∧ mw' ≤ mw ∧ KW w1 w' ∧ w1.heap.size ≤ w'.heap.size ∧ Hid (Thin D R L L') ∧ Hid ((b = true → 0 < mw' ∧ frsh D R (L'.getD 0 d0)) ∧ (b = false → L' = []))
section
variable {w0 w w' : World} {n s t P M cE TI TO SC cC SL cL H mw cw : Nat} {AE Aw : Option Addr} {FI FO : Nat → Option Addr × Nat} {l : List E} {D R : List Int} {L : List Sp} {wk : Int}
theorem top_ids {x : Sp} (hi : ∀ x ∈ L, 0 ≤ x.2.2 ∧ x.2.2 < n) {L' : List Sp} (ht : Thin D R L L') {k : Nat} (hl : L'.length = k + 1) (hg : L'.getD 0 d0 = x) : x ∈ L' ∧ 0 ≤ x.2.2 ∧ x.2.2 < n := by
  have hm : x ∈ L' := by
    rw [List.getD_eq_getElem?_getD, List.getElem?_eq_getElem (by omega)] at hg
    simp only [Option.getD_some] at hg
    rw [← hg]
    exact List.getElem_mem _
  exact ⟨hm, hi x (ht.sub x hm)⟩
set_option maxRecDepth 100000 in
set_option maxHeartbeats 8000000 in
theorem fresh_any (h : LM w0 w n s t P M AE cE TI TO FI FO SC cC SL cL H l D R Aw mw cw L wk) (hi : ∀ x ∈ L, 0 ≤ x.2.2 ∧ x.2.2 < n) (hmw : mw ≤ 4000000000000) :
    Calls Try.prog 90 #[.pointer (some ⟨P, 0, none⟩)] w fun e w' => FreshSays w0 n s t P M AE cE TI TO FI FO SC cC SL cL H l D R Aw mw cw L wk w e w' := by
  have h1 := Lib.hid h
  have hI := Lib.hid hi
  clear h hi
  go_enter Try.func90, Try.ntmps90
  go_wp2
  go_loopw [2] (fun b wr => b = .bool false ∧ ∃ A' m' c' L', Hid (LM w0 wr n s t P M AE cE TI TO FI FO SC cC SL cL H l D R A' m' c' L' wk) ∧ m' ≤ mw ∧ Hid (KW w wr) ∧ w.heap.size ≤ wr.heap.size ∧ Hid (Thin D R L L')) (fun _ wr => hlen wr H)
  case atStart => exact ⟨rfl, Aw, mw, cw, L, h1, Nat.le_refl _, Lib.hid (KW.refl w), Nat.le_refl _, Lib.hid (Thin.refl D R L)⟩
  case round =>
    obtain ⟨rfl, A', m', c', L', HM, hm', HKW, hz, HT⟩ := hrel
    clear h1
    obtain ⟨_, _, _, _, _, _, z6, z7, z8, _, _, zp⟩ := HM.out.zs
    have hml := HM.out.heap.len
    have klen := HeapS.len_any wr HM.out.heap
    have KLEN := Lib.hid klen
    clear klen
    go_wp2_with fail
    refine KLEN.out.mono ?_
    rintro e w2 ⟨rfl, hw2⟩
    have hw2' := hw2.symm
    clear hw2
    subst hw2'
    rcases Nat.eq_zero_or_pos m' with hm0 | hm0
    · subst hm0
      have hL0 : L' = [] := List.eq_nil_of_length_eq_zero hml
      have hpost : FreshSays w0 n s t P M AE cE TI TO FI FO SC cC SL cL H l D R Aw mw cw L wk w (.returned (.bool false)) wr := ⟨false, A', 0, c', L', rfl, HM, Nat.zero_le _, HKW.out, hz, HT, Lib.hid ⟨fun h => (nomatch h), fun _ => hL0⟩⟩
      have HPOST := Lib.hid hpost
      clear hpost hL0
      go_wp2
      go_ret
      exact HPOST.out
    · obtain ⟨k, rfl⟩ : ∃ k, m' = k + 1 := ⟨m' - 1, by omega⟩
      have ktop := top_any HM.out.heap hm0
      have KTOP := Lib.hid ktop
      have zk : (k : Int) + 1 > 0 := by omega
      clear ktop
      go_wp2_with fail
      refine KTOP.out.mono ?_
      rintro e w3 ⟨a, b, x, hg0, rfl, hb3⟩
      obtain ⟨hxm, hx0, hx1⟩ := top_ids (x := (a, b, x)) hI.out HT.out hml hg0
      simp only at hx0 hx1
      obtain ⟨x, rfl⟩ := Int.eq_ofNat_of_zero_le hx0
      have hxn : x < n := by omega
      go_upto_region 3 with fail
      have hm4 := (HM.out.keep hb3).alloc (.cells #[.int .i64 a, .int .i64 b, .int .i64 x] 102)
      have hbx := heap_alloc_new w3 (.cells #[.int .i64 a, .int .i64 b, .int .i64 x] 102)
      have hb4 : Below wr.heap.size wr (w3.alloc (.cells #[.int .i64 a, .int .i64 b, .int .i64 x] 102)) := hb3.alloc hb3.size _
      generalize w3.alloc (.cells #[.int .i64 a, .int .i64 b, .int .i64 x] 102) = w4 at hm4 hbx hb4 ⊢
      generalize w3.heap.size = X at hbx ⊢
      clear z6 z7 z8 zp hb3 KTOP KLEN
      obtain ⟨_, _, _, _, _, _, z6, z7, z8, _, _, zp⟩ := hm4.zs
      obtain ⟨c1, c2, _, _, zc, zl⟩ := hm4.cells hxn
      have x0 := blk_cell hbx 0
      have x1 := blk_cell hbx 1
      have x2 := blk_cell hbx 2
      simp only [List.getElem?_toArray, List.getElem?_cons_zero, List.getElem?_cons_succ] at x0 x1 x2
      have zX := lt_of_block hbx
      have zx : (x : Int) < (n : Int) := by omega
      have kkey := fun (W : World) (hW : Below w4.heap.size w4 W) => key_any (hm4.keep hW) hxn
      have hfr : frsh D R (a, b, (x : Int)) ↔ (dg D x ≠ dg R x ∧ a = min (dg D x) (dg R x) ∧ b = min (dg D x) (dg R x)) := by
        unfold frsh ky
        simp only [Prod.mk.injEq, and_true]
      have HFR := Lib.hid hfr
      have KKEY := Lib.hid kkey
      have HM4 := Lib.hid hm4
      have HB4 := Lib.hid hb4
      have HG0 := Lib.hid hg0
      have HI2 := Lib.hid hxm
      clear kkey hfr hm4 hbx hb4 hg0 hxm hx0 hx1 hml hm0
      generalize dg D (x : Int) = d at *
      generalize dg R (x : Int) = r at *
      obtain ⟨q, hq⟩ : ∃ q, min d r = q := ⟨_, rfl⟩
      obtain ⟨bb, hbb⟩ : ∃ bb, decide (d ≠ r ∧ a = q ∧ b = q) = bb := ⟨_, rfl⟩
      rw [hq] at HFR KKEY
      clear hq
      have HBB := Lib.hid hbb
      clear hbb
      go_cut [39] from 15 to 38 (fun s39 wx => s39 = .bool bb ∧ Hid (Below w4.heap.size w4 wx))
      case first =>
        by_cases hdr : d = r
        · have hbf : bb = false := by rw [← HBB.out]; exact decide_eq_false (fun h => h.1 hdr)
          have HBF := Lib.hid hbf
          have hdd : (d != r) = false := by rw [hdr]; simp
          clear hdr hbf
          go_quiet (fail)
          go_wp2
          go_meet
          exact ⟨by rw [HBF.out], Lib.hid (below_drewN (Below.refl _ _) nq)⟩
        · have hdd : (d != r) = true := by rw [bne_iff_ne]; exact hdr
          have hcl : ∀ wd : World, Below w4.drew.heap.size w4.drew wd → wd.cell? ⟨P, 6, none⟩ = some (.slice (some ⟨SC, 0, none⟩) n cC) ∧ wd.cell? ⟨P, 7, none⟩ = some (.slice (some ⟨SL, 0, none⟩) n cL) ∧ wd.cell? ⟨SC, x, none⟩ = some (.int .i64 d) ∧ wd.cell? ⟨SL, x, none⟩ = some (.int .i64 r) ∧ wd.cell? ⟨X, 0, none⟩ = some (.int .i64 a) ∧ wd.cell? ⟨X, 1, none⟩ = some (.int .i64 b) ∧ wd.cell? ⟨X, 2, none⟩ = some (.int .i64 x) := fun wd hbd =>
            ⟨(hbd.cell (p := ⟨P, 6, none⟩) zp).trans z6, (hbd.cell (p := ⟨P, 7, none⟩) zp).trans z7, (hbd.cell (p := ⟨SC, x, none⟩) zc).trans c1, (hbd.cell (p := ⟨SL, x, none⟩) zl).trans c2, (hbd.cell (p := ⟨X, 0, none⟩) zX).trans x0, (hbd.cell (p := ⟨X, 1, none⟩) zX).trans x1, (hbd.cell (p := ⟨X, 2, none⟩) zX).trans x2⟩
          have HCL := Lib.hid hcl
          clear hcl
          by_cases ha : a = q
          · subst ha
            by_cases hb : a = b
            · obtain rfl := hb
              have hbt : bb = true := by rw [← HBB.out]; exact decide_eq_true ⟨hdr, rfl, rfl⟩
              have HBT := Lib.hid hbt
              clear hbt hdr
              go_region_held3 (fun w' => w'.cell? ⟨P, 6, none⟩ = some (.slice (some ⟨SC, 0, none⟩) n cC) ∧ w'.cell? ⟨P, 7, none⟩ = some (.slice (some ⟨SL, 0, none⟩) n cL) ∧ w'.cell? ⟨SC, x, none⟩ = some (.int .i64 d) ∧ w'.cell? ⟨SL, x, none⟩ = some (.int .i64 r) ∧ w'.cell? ⟨X, 0, none⟩ = some (.int .i64 a) ∧ w'.cell? ⟨X, 1, none⟩ = some (.int .i64 a) ∧ w'.cell? ⟨X, 2, none⟩ = some (.int .i64 x)) (first | go_keep | exact hcw) (first | (go_at_call 89; refine (KKEY.out _ (Below.refl _ _).drew).mono ?_; rintro e wd ⟨rfl, hbd⟩; have hcw := HCL.out _ hbd))
              all_goals
                go_wp2
                go_meet
                exact ⟨by rw [HBT.out], Lib.hid ((Below.refl _ _).drew.trans (hbd.mono (Nat.le_refl _)))⟩
            · have hbt : bb = false := by rw [← HBB.out]; exact decide_eq_false (fun h => hb h.2.2.symm)
              have HBT := Lib.hid hbt
              have hbe : (b == a) = false := beq_eq_false_iff_ne.2 (fun e => hb e.symm)
              clear hbt hdr hb
              go_region_held3 (fun w' => w'.cell? ⟨P, 6, none⟩ = some (.slice (some ⟨SC, 0, none⟩) n cC) ∧ w'.cell? ⟨P, 7, none⟩ = some (.slice (some ⟨SL, 0, none⟩) n cL) ∧ w'.cell? ⟨SC, x, none⟩ = some (.int .i64 d) ∧ w'.cell? ⟨SL, x, none⟩ = some (.int .i64 r) ∧ w'.cell? ⟨X, 0, none⟩ = some (.int .i64 a) ∧ w'.cell? ⟨X, 1, none⟩ = some (.int .i64 b) ∧ w'.cell? ⟨X, 2, none⟩ = some (.int .i64 x)) (first | go_keep | exact hcw) (first | (go_at_call 89; refine (KKEY.out _ (Below.refl _ _).drew).mono ?_; rintro e wd ⟨rfl, hbd⟩; have hcw := HCL.out _ hbd))
              all_goals
                go_wp2
                go_meet
                exact ⟨by rw [HBT.out], Lib.hid ((Below.refl _ _).drew.trans (hbd.mono (Nat.le_refl _)))⟩
          · have hbt : bb = false := by rw [← HBB.out]; exact decide_eq_false (fun h => ha h.2.1)
            have HBT := Lib.hid hbt
            have hbe : (a == q) = false := beq_eq_false_iff_ne.2 ha
            clear hbt hdr ha
            go_region_held3 (fun w' => w'.cell? ⟨P, 6, none⟩ = some (.slice (some ⟨SC, 0, none⟩) n cC) ∧ w'.cell? ⟨P, 7, none⟩ = some (.slice (some ⟨SL, 0, none⟩) n cL) ∧ w'.cell? ⟨SC, x, none⟩ = some (.int .i64 d) ∧ w'.cell? ⟨SL, x, none⟩ = some (.int .i64 r) ∧ w'.cell? ⟨X, 0, none⟩ = some (.int .i64 a) ∧ w'.cell? ⟨X, 1, none⟩ = some (.int .i64 b) ∧ w'.cell? ⟨X, 2, none⟩ = some (.int .i64 x)) (first | go_keep | exact hcw) (first | (go_at_call 89; refine (KKEY.out _ (Below.refl _ _).drew).mono ?_; rintro e wd ⟨rfl, hbd⟩; have hcw := HCL.out _ hbd))
            all_goals
              go_wp2
              go_meet
              exact ⟨by rw [HBT.out], Lib.hid ((Below.refl _ _).drew.trans (hbd.mono (Nat.le_refl _)))⟩
      case rest =>
        obtain ⟨rfl, HB5⟩ := hcut
        have hbw : Below wr.heap.size wr wc := HB4.out.trans (HB5.out.mono HB4.out.size)
        have hkw : KW w wc := HKW.out.trans (KW.below hbw)
        have hzc : w.heap.size ≤ wc.heap.size := Nat.le_trans hz hbw.size
        have hm5 := HM.out.keep hbw
        have HM5 := Lib.hid hm5
        have HKC := Lib.hid hkw
        clear hbw hkw hm5 HM4 HB4 HB5 x0 x1 x2 zX c1 c2 zc zl z6 z7 z8 zp KKEY
        cases bb with
        | true =>
          have hfb := HFR.out.2 (of_decide_eq_true HBB.out)
          have hpost : FreshSays w0 n s t P M AE cE TI TO FI FO SC cC SL cL H l D R Aw mw cw L wk w (.returned (.bool true)) wc := ⟨true, A', k + 1, c', L', rfl, HM5, hm', HKC.out, hzc, HT, Lib.hid ⟨fun _ => ⟨Nat.succ_pos _, by rw [HG0.out]; exact hfb⟩, fun h => (nomatch h)⟩⟩
          have HPOST := Lib.hid hpost
          clear hpost hfb
          go_wp2
          go_ret
          exact HPOST.out
        | false =>
          have hfb : ¬ frsh D R (a, b, (x : Int)) := fun h => by
            have := decide_eq_true (HFR.out.1 h)
            rw [HBB.out] at this
            cases this
          have HFB := Lib.hid hfb
          obtain ⟨_, _, _, _, _, _, _, _, z8, _, _, zp⟩ := HM5.out.zs
          have kpop := HeapS.pop_any ltP ltP_ord HeapS.less_any w0.heap.size H A' k c' L' wc HM5.out.heap HM5.out.hp (by omega) HM5.out.lo.size
          have KPOP := Lib.hid kpop
          have hl1 := hlen_eq HM.out.heap
          have HL1 := Lib.hid hl1
          clear hfb kpop hl1
          go_wp2_with fail
          refine KPOP.out.mono ?_
          rintro e w9 ⟨p, pm, pq, L2, rfl, hg2, hh2, hpm2, hhp2, hkp2⟩
          rw [HG0.out] at hg2
          obtain ⟨rfl, rfl, rfl⟩ := (by simpa using hg2 : a = p ∧ b = pm ∧ (x : Int) = pq)
          have hm9 := HM5.out.kp hkp2 hh2 hhp2
          have hkw9 := HKC.out.trans (KW.kp HM5.out.heap hkp2)
          have hz9 : w.heap.size ≤ w9.heap.size := Nat.le_trans hzc hkp2.size
          have ht9 := HT.out.pop hpm2 HFB.out
          have hl9 := hlen_eq hh2
          have HM9 := Lib.hid hm9
          have HK9 := Lib.hid hkw9
          have HT9 := Lib.hid ht9
          have HL9 := Lib.hid hl9
          clear hm9 hkw9 ht9 hl9 hh2 hpm2 hhp2 hkp2 hg2
          go_wp2
          go_roundw
          case rel => exact ⟨rfl, A', k, c', L2, HM9, by omega, HK9, hz9, HT9⟩
          case measure => rw [HL9.out, HL1.out]; exact Nat.lt_succ_self _
end
end Go.Proofs.Ytamphgcpfncenaa.Life
