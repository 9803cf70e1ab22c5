/- The walks of (*life.Plan).mend and Set. -/
/- The walks of (*life.Plan).Set, Work and Net. -/
import Derived.Test.YtamphgcpfncenaaVLifeKey
import Derived.BigRegion
import Derived.BigQuiet
import Derived.Deep.RegionHeld3
import Derived.Test.YtamphgcpfncenaaVJohnWalks
namespace Go.Proofs.Ytamphgcpfncenaa.Life
open Go.RowKit Go.Proofs.Ytamphgcpfncenaa NetLaw BellLaw FlowLaw LifeLaw Go.Proofs.Ytamphgcpfncenaa.Net Go.Proofs.Ytamphgcpfncenaa.Std Go.Proofs.Ytamphgcpfncenaa.Flow
open Go.Proofs.Ytamphgcpfncenaa.Heap (Kp Kp.refl Kp.below Kp.alloc Kp.drew Kp.setCell Kp.grown Kp.to fnOf)
open Go.Proofs.Ytamphgcpfncenaa.HeapS (HeapAt d0 ltP ltP_ord)
set_option linter.unusedSimpArgs false
set_option linter.unusedVariables false
/-- what mend does -/
def MendSays (w0 : World) (n s t P M : Nat) (AE : Option Addr) (cE TI TO : Nat) (FI FO : Nat → Option Addr × Nat) (SC cC SL cL H : Nat) (l : List E) (D R : List Int) (Aw : Option Addr) (mw cw : Nat) (L : List Sp) (wk : Int) (v : Int) (w1 : World) (e : Ending) (w' : World) : Prop :=
  (∃ r, e = .returned r) ∧ ∃ R' Aw' mw' cw' L', Hid (LM w0 w' n s t P M AE cE TI TO FI FO SC cC SL cL H l D R' Aw' mw' cw' L' wk) ∧ mw' ≤ mw + 1 ∧ KW w1 w' ∧ w1.heap.size ≤ w'.heap.size ∧
    Hid (∀ pend pend' : Int → Prop, PI n l s D R L pend → (∀ u : Int, pend u → u = v ∨ pend' u) → PI n l s D R' L' pend')
section
variable {w0 w w' : World} {n s t P M cE TI TO SC cC SL cL H mw cw : Nat} {AE Aw : Option Addr} {FI FO : Nat → Option Addr × Nat} {l : List E} {D R : List Int} {L : List Sp} {wk : Int}
theorem MendSays.ret {v : Int} {w1 : World} {e e' : Ending} {r' : Value} (h : MendSays w0 n s t P M AE cE TI TO FI FO SC cC SL cL H l D R Aw mw cw L wk v w1 e w') (he : e' = .returned r' := by rfl) : MendSays w0 n s t P M AE cE TI TO FI FO SC cC SL cL H l D R Aw mw cw L wk v w1 (.returned r') w' := ⟨⟨r', rfl⟩, h.2⟩
theorem row_ids (hg : Gd n l s) (h : LM w0 w n s t P M AE cE TI TO FI FO SC cC SL cL H l D R Aw mw cw L wk) {v : Nat} : ∀ j ∈ ol (tl l) M v, ∃ i, i < M ∧ j = (i : Int) ∧ en l i = v := fun j hj => by
  obtain ⟨i, hi, he, hf⟩ := (ol_mem _ _ _ _).1 hj
  rw [tl_fr] at hf
  exact ⟨i, hi, he, hf⟩
theorem mend_put (h : LM w0 w n s t P M AE cE TI TO FI FO SC cC SL cL H l D R Aw mw cw L wk) {v : Nat} (hv : v < n) (hvs : v ≠ s) {e : Ending} {w2 w3 : World} {bv : Int} (hb : best l D (ins l v) = bv) (hm : LM w0 w2 n s t P M AE cE TI TO FI FO SC cC SL cL H l D (R.set v bv) Aw mw cw L wk) (hk : KW w w2) (hz : w.heap.size ≤ w2.heap.size) (hp : PutSays w0 n s t P M AE cE TI TO FI FO SC cC SL cL H l D (R.set v bv) Aw mw cw L wk v w2 e w3) : MendSays w0 n s t P M AE cE TI TO FI FO SC cC SL cL H l D R Aw mw cw L wk v w e w3 := by
  obtain ⟨hr, Aw', mw', cw', L', h1, h2, h3, h4, h5, h6, h7⟩ := hp
  refine ⟨hr, _, Aw', mw', cw', L', Lib.hid h1, h5, hk.trans h6, Nat.le_trans hz h7, Lib.hid fun pend pend' hpi hpe => ?_⟩
  have hki : ∀ x ∈ L', 0 ≤ x.2.2 ∧ x.2.2 < n := fun x hx => (h3 x hx).elim (hpi.ids x) fun e => by rw [e]; exact ⟨by simp [ky], by simp [ky]; omega⟩
  have hd : dg (R.set v bv) v = bv := by
    have := dg_set (D := R) (t := (v : Int)) (v := v) (x := bv) (by omega) (by rw [h.rl]; omega) (by omega)
    rwa [if_pos rfl, Int.toNat_natCast] at this
  have := hpi.mend (v := (v : Int)) (L' := L') (pend' := pend') (by omega) (by omega) (by omega) h2 hki (by rw [hb, Int.toNat_natCast]; intro hne; exact h4 (by rw [hd]; exact hne)) hpe
  rw [hb, Int.toNat_natCast] at this
  exact this
theorem set_self {R : List Int} {v : Nat} (h : v < R.length) : R.set v (dg R v) = R := by
  apply List.ext_getElem
  · simp
  · intro i h1 h2
    rw [List.getElem_set]
    split
    · rename_i e
      subst e
      unfold dg
      rw [Int.toNat_natCast, List.getD_eq_getElem?_getD, List.getElem?_eq_getElem h2]
      rfl
    · rfl
set_option maxRecDepth 100000 in
set_option maxHeartbeats 8000000 in
theorem mend_any (h : LM w0 w n s t P M AE cE TI TO FI FO SC cC SL cL H l D R Aw mw cw L wk) (hg : Gd n l s) (hr : Rg n D) {v : Nat} (hv : v < n) (hmw : mw ≤ 4000000000000) :
    Calls Try.prog 61 #[.pointer (some ⟨P, 0, none⟩), .int .i64 v] w fun e w' => MendSays w0 n s t P M AE cE TI TO FI FO SC cC SL cL H l D R Aw mw cw L wk v w e w' := by
  obtain ⟨z0, z1, z2, z3, z4, z5, z6, z7, z8, z9, _, zp⟩ := h.zs
  have zv : (v : Int) < (n : Int) := by omega
  by_cases hvs : v = s
  · subst hvs
    have hpost : MendSays w0 n v t P M AE cE TI TO FI FO SC cC SL cL H l D R Aw mw cw L wk v w (.returned (.tuple #[])) w := ⟨⟨_, rfl⟩, R, Aw, mw, cw, L, Lib.hid h, Nat.le_succ _, KW.refl w, Nat.le_refl _, Lib.hid fun pend pend' hpi hpe => hpi.mend_s hpe⟩
    have hd : ((v : Int) == (v : Int)) = true := by simp
    have HPOST := Lib.hid hpost
    clear h hpost hr hg
    go_enter Try.func61, Try.ntmps61
    go_wp2
    exact bodyPost_ret (v := .tuple #[]) (by simp [results, Try.results61, go_sem]) rfl HPOST.out
  · have hd : ((v : Int) == (s : Int)) = false := by rw [beq_eq_false_iff_ne]; omega
    obtain ⟨tc, tf⟩ := h.tabI.cell hv
    have htl := h.tabI.lt
    have hown := h.tabI.own v hv
    have hids := row_ids hg h (v := v)
    have hbest : best l D (ol (tl l) M v) = best l D (ins l v) := by unfold ins; rw [h.ll, Int.toNat_natCast]
    have hjl : (ol (tl l) M v).length ≤ 600 := Nat.le_trans (ol_len _ _ _) (by rw [← h.ll]; exact hg.len)
    generalize ol (tl l) M v = js at tc hown hids hbest hjl
    obtain ⟨A, ca⟩ : ∃ A ca, FI v = (A, ca) := ⟨_, _, rfl⟩
    obtain ⟨ca, hF⟩ := ca
    rw [hF] at tc hown
    simp only at tc hown
    have hlen := (hown.form)
    obtain ⟨bv, hbv⟩ : ∃ bv, best l D (ins l v) = bv := ⟨_, rfl⟩
    rw [hbv] at hbest
    have hfold : ∀ k (hk : k < js.length), (js.take (k + 1)).foldl (mnS l D) far = mnS l D ((js.take k).foldl (mnS l D) far) js[k] := fun k hk => by rw [List.take_succ_eq_append_getElem hk, List.foldl_append]; rfl
    have hput := fun (R' : List Int) (W : World) (hm : LM w0 W n s t P M AE cE TI TO FI FO SC cC SL cL H l D R' Aw mw cw L wk) => put_any hm hv hmw
    have hfin := fun (W W' : World) (e : Ending) (hm : LM w0 W n s t P M AE cE TI TO FI FO SC cC SL cL H l D (R.set v bv) Aw mw cw L wk) (hk : KW w W) (hz : w.heap.size ≤ W.heap.size) (hp : PutSays w0 n s t P M AE cE TI TO FI FO SC cC SL cL H l D (R.set v bv) Aw mw cw L wk v W e W') => mend_put h hv hvs hbv hm hk hz hp
    have HFIN := Lib.hid hfin
    have HPUT := Lib.hid hput
    have HM := Lib.hid h
    have HG := Lib.hid hg
    have HR := Lib.hid hr
    have HO := Lib.hid hown
    have HI := Lib.hid hids
    have HB := Lib.hid hbest
    have HBV := Lib.hid hbv
    have HFO := Lib.hid hfold
    have hfar : far = 1099511627776 := rfl
    have HFAR := Lib.hid hfar
    clear h hg hr hown hids hbest hbv hfold hput hfin hF hlen tf hvs hfar
    go_enter Try.func61, Try.ntmps61
    go_wp2
    go_loopw [4, 22] (fun b i wr => ∃ k : Nat, k ≤ js.length ∧ i = .int .i64 k ∧ b = .int .i64 ((js.take k).foldl (mnS l D) far) ∧ Below w.heap.size w wr) (fun b i _ => js.length - (intOf i).toNat)
    case atStart => exact ⟨0, Nat.zero_le _, rfl, by rw [List.take_zero]; rfl, Below.refl _ _⟩
    case round =>
      obtain ⟨k, hk, rfl, rfl, hB⟩ := hrel
      clear z0 z1 z2 z3 z4 z5 z6 z7 z8 z9 zp tc htl
      obtain ⟨z0, z1, z2, z3, z4, z5, z6, z7, z8, z9, _, zp⟩ := (HM.out.keep hB).zs
      by_cases hlt : k < js.length
      · have hjs := HI.out _ (List.getElem_mem hlt)
        obtain ⟨bb, off, rfl, hbb, hx⟩ := (HO.out.keep hB).sl.2.atI hlt
        have hst := HFO.out k hlt
        generalize js[k] = jk at hjs hx hst
        obtain ⟨i, hi, rfl, hei⟩ := hjs
        obtain ⟨S, f, t', co, rfl, hS0, hS1, he, hcf, hct, hcc, g0, g1, g2⟩ := own_atE HM.out.ll (HM.out.keep hB).net (show i < l.length by rw [HM.out.ll]; exact hi)
        have hil : i < l.length := by rw [HM.out.ll]; exact hi
        have he2 : ed l i = (f, t', co) := by rw [ed_at hil]; exact he
        have e1 : fr l i = f := by unfold fr; rw [he2]
        have e3 : cpt l i = co := by unfold cpt; rw [he2]
        have hends := (HG.out.ends i hil).1
        have hco := HG.out.cost i hil
        rw [e1] at hends
        rw [e3] at hco
        obtain ⟨f, rfl⟩ := Int.eq_ofNat_of_zero_le hends.1
        have hfn : f < n := by omega
        have zf : (f : Int) < (n : Int) := by omega
        obtain ⟨c1, _, _, _, zc, _⟩ := (HM.out.keep hB).cells hfn
        have hrg := HR.out.rg (f : Int) (by omega) zf
        have hms : mnS l D ((js.take k).foldl (mnS l D) far) (i : Int) = min ((js.take k).foldl (mnS l D) far) (dg D (f : Int) + co) := by unfold mnS; rw [Int.toNat_natCast, e1, e3]
        rw [hms] at hst
        generalize (js.take k).foldl (mnS l D) far = b at *
        generalize dg D (f : Int) = d at *
        have hff := HFAR.out
        rw [hff] at hrg
        obtain ⟨r0, r1⟩ := hrg
        obtain ⟨o0, o1⟩ := hco
        have w1 : IntKind.i64.wrap (d + co) = d + co := by simp [IntKind.wrap, IntKind.bits, IntKind.signed]; omega
        obtain ⟨q, hq⟩ : ∃ q, d + co = q := ⟨_, rfl⟩
        rw [hq] at w1 hst
        obtain ⟨mn, hmn⟩ : ∃ mn, min b q = mn := ⟨_, rfl⟩
        have hif : (if q < b then q else b) = mn := by split <;> omega
        rw [hmn] at hst
        have HST := Lib.hid hst
        have zi : (i : Int) < (M : Int) := by omega
        have w1' : IntKind.i64.wrap (d + co) = q := by rw [hq]; exact w1
        have hBz := hB.size
        clear hst hmn hms he he2 e1 e3 hends hei hil hi hff hq w1
        go_upto_region 6 with fail
        go_quiet (fail)
        go_wp2
        go_roundw
        case rel => exact ⟨k + 1, by omega, by go_num, by rw [HST.out], below_drewN (hB.alloc hB.size _) nq⟩
        case measure => simp [intOf]; omega
      · obtain rfl : k = js.length := by omega
        have hbb : js.foldl (mnS l D) far = bv := HB.out
        rw [List.take_length, hbb]
        clear hbb
        obtain ⟨_, c2, _, f2, _, zc2⟩ := (HM.out.keep hB).cells hv
        have hBz := hB.size
        by_cases hne : bv = dg R (v : Int)
        · have hset : R.set v bv = R := by rw [hne]; exact set_self (by rw [HM.out.rl]; exact hv)
          have hm2 := HM.out.keep hB
          rw [← hset] at hm2
          have hpu := HPUT.out _ _ hm2
          have HPU := Lib.hid hpu
          have HM2 := Lib.hid hm2
          have hd2 : (bv != dg R (v : Int)) = false := by rw [hne]; simp
          clear hset hm2 hpu hne f2
          generalize dg R (v : Int) = r at *
          go_wp2_with fail
          refine (HPU.out).mono ?_
          rintro e w9 hps
          obtain ⟨⟨r9, rfl⟩, hps2⟩ := hps
          have hq := HFIN.out _ _ _ HM2.out (KW.below hB) hBz ⟨⟨r9, rfl⟩, hps2⟩
          have HQ := Lib.hid hq
          clear hq hps2
          go_wp2
          exact bodyPost_end (v := .tuple #[]) (by simp [results, Try.results61, go_sem]) rfl (MendSays.ret HQ.out)
        · have hd2 : (bv != dg R (v : Int)) = true := by rw [bne_iff_ne]; exact hne
          have hm2 := (HM.out.keep hB).setL v bv
          have hkw := (KW.below hB).trans ((HM.out.keep hB).kw_setL v (.int .i64 bv))
          have hpu := HPUT.out _ _ hm2
          have HPU := Lib.hid hpu
          have HM2 := Lib.hid hm2
          have HKW := Lib.hid hkw
          clear hm2 hpu hne hkw
          generalize dg R (v : Int) = r at *
          go_wp2_with fail
          refine (HPU.out).mono ?_
          rintro e w9 hps
          obtain ⟨⟨r9, rfl⟩, hps2⟩ := hps
          have hq := HFIN.out _ _ _ HM2.out HKW.out (by simp [World.setCell]; omega) ⟨⟨r9, rfl⟩, hps2⟩
          have HQ := Lib.hid hq
          clear hq hps2
          go_wp2
          exact bodyPost_end (v := .tuple #[]) (by simp [results, Try.results61, go_sem]) rfl (MendSays.ret HQ.out)
end
end Go.Proofs.Ytamphgcpfncenaa.Life

namespace Go.Proofs.Ytamphgcpfncenaa.Life
open Go.RowKit Go.Proofs.Ytamphgcpfncenaa NetLaw BellLaw FlowLaw LifeLaw Go.Proofs.Ytamphgcpfncenaa.Net Go.Proofs.Ytamphgcpfncenaa.Std Go.Proofs.Ytamphgcpfncenaa.Flow
open Go.Proofs.Ytamphgcpfncenaa.Heap (Kp Kp.refl Kp.below Kp.alloc Kp.drew Kp.setCell Kp.grown Kp.to fnOf)
open Go.Proofs.Ytamphgcpfncenaa.HeapS (HeapAt d0 ltP ltP_ord)
set_option linter.unusedSimpArgs false
set_option linter.unusedVariables false
/-- the net behind an edit -/
def edt (l : List E) (e c : Int) : List E := if (0 ≤ e ∧ e < l.length) ∧ 1 ≤ c ∧ c ≤ 10000 then l.set e.toNat (fr l e.toNat, en l e.toNat, c) else l
def serr (l : List E) (e c : Int) : Int := if 0 ≤ e ∧ e < l.length then (if 1 ≤ c ∧ c ≤ 10000 then 0 else 4) else 1
theorem edt_len (l : List E) (e c : Int) : (edt l e c).length = l.length := by unfold edt; split <;> simp
theorem edt_gd {n : Nat} {l : List E} {s : Int} (h : Gd n l s) (e c : Int) : Gd n (edt l e c) s := by
  unfold edt
  split
  · rename_i hc; exact h.set (by omega) hc.2
  · exact h
/-- what Set does -/
def SetSays (w0 : World) (n s t P M : Nat) (AE : Option Addr) (cE TI TO : Nat) (FI FO : Nat → Option Addr × Nat) (SC cC SL cL H : Nat) (l : List E) (D R : List Int) (Aw : Option Addr) (mw cw : Nat) (L : List Sp) (wk : Int) (x c : Int) (w1 : World) (e : Ending) (w' : World) : Prop :=
  e = .returned (.int .i64 (serr l x c)) ∧ ∃ R' Aw' mw' cw' L', Hid (LM w0 w' n s t P M AE cE TI TO FI FO SC cC SL cL H (edt l x c) D R' Aw' mw' cw' L' wk) ∧ mw' ≤ mw + 1 ∧ KW w1 w' ∧ w1.heap.size ≤ w'.heap.size ∧
    Hid (PI n l s D R L (fun _ => False) → PI n (edt l x c) s D R' L' (fun _ => False))
section
variable {w0 w w' : World} {n s t P M cE TI TO SC cC SL cL H mw cw : Nat} {AE Aw : Option Addr} {FI FO : Nat → Option Addr × Nat} {l : List E} {D R : List Int} {L : List Sp} {wk : Int}
set_option maxRecDepth 100000 in
set_option maxHeartbeats 4000000 in
theorem set_any (h : LM w0 w n s t P M AE cE TI TO FI FO SC cC SL cL H l D R Aw mw cw L wk) (hg : Gd n l s) (hr : Rg n D) (x c : Int) (hmw : mw ≤ 4000000000000) :
    Calls Try.prog 22 #[.pointer (some ⟨P, 0, none⟩), .int .i64 x, .int .i64 c] w fun e w' => SetSays w0 n s t P M AE cE TI TO FI FO SC cC SL cL H l D R Aw mw cw L wk x c w e w' := by
  obtain ⟨z0, z1, z2, z3, z4, z5, z6, z7, z8, z9, _, zp⟩ := h.zs
  have hM := h.ll
  by_cases hx : 0 ≤ x ∧ x < l.length
  · obtain ⟨i, rfl⟩ := Int.eq_ofNat_of_zero_le hx.1
    have hil : i < l.length := by omega
    have hi : i < M := by omega
    have zi : (i : Int) < (M : Int) := by omega
    by_cases hc : 1 ≤ c ∧ c ≤ 10000
    · have hes : serr l i c = 0 := by unfold serr; rw [if_pos hx, if_pos hc]
      have hed : edt l i c = l.set i (fr l i, en l i, c) := by unfold edt; rw [if_pos ⟨hx, hc⟩, Int.toNat_natCast]
      obtain ⟨S, rfl, hS, e0, e1, e2, ef, hSP, hm2, hkw⟩ := h.setE hi c
      obtain ⟨⟨a0, a1⟩, b0, b1⟩ := hg.ends i hil
      have hg2 := hg.set hil hc
      obtain ⟨v, hv⟩ := Int.eq_ofNat_of_zero_le b0
      have hvn : v < n := by omega
      have hpi := fun (h : PI n l s D R L fun _ => False) => (h.edit hil c).mono (pend' := fun u => u = (v : Int)) fun u _ _ hu => hu.trans hv
      have kk := mend_any hm2 hg2 hr hvn hmw
      rw [hv] at e1
      obtain ⟨c0, c1⟩ := hc
      have HPI := Lib.hid hpi
      have KK := Lib.hid kk
      have HES := Lib.hid hes
      have HED := Lib.hid hed
      have HKW := Lib.hid hkw
      clear h hm2 hpi kk hes hed hkw hg hg2 a0 a1 b0 b1 hx hM
      generalize fr l i = f at *
      generalize cpt l i = co at *
      clear hv
      go_enter Try.func22, Try.ntmps22
      go_wp2_with fail
      refine KK.out.mono ?_
      rintro e w9 ⟨⟨r9, rfl⟩, R', Aw', mw', cw', L', h1, h2, h3, h4, h5⟩
      have hz : w.heap.size ≤ w9.heap.size := by simp [World.setCell] at h4; exact h4
      have hkk := HKW.out.trans h3
      have HKK := Lib.hid hkk
      clear h3 hkk
      go_wp2
      refine bodyPost_ret (v := .int .i64 0) (by simp [results, Try.results22, go_sem]) rfl ?_
      refine ⟨by rw [HES.out], R', Aw', mw', cw', L', Lib.hid ?_, h2, HKK.out, hz, Lib.hid fun hpi => ?_⟩
      · rw [HED.out]; exact h1.out
      · rw [HED.out]; exact h5.out _ _ (HPI.out hpi) (fun u hu => .inl hu)
    · have hes : serr l i c = 4 := by unfold serr; rw [if_pos hx, if_neg hc]
      have hed : edt l i c = l := by unfold edt; rw [if_neg (fun h => hc h.2)]
      have hpost : SetSays w0 n s t P M AE cE TI TO FI FO SC cC SL cL H l D R Aw mw cw L wk i c w (.returned (.int .i64 4)) w := ⟨by rw [hes], R, Aw, mw, cw, L, Lib.hid (by rw [hed]; exact h), Nat.le_succ _, KW.refl w, Nat.le_refl _, Lib.hid fun h => by rw [hed]; exact h⟩
      have HPOST := Lib.hid hpost
      by_cases c1 : c < 1
      · clear h hes hed hpost hg hr hx hM hc
        go_enter Try.func22, Try.ntmps22
        go_wp2
        exact bodyPost_ret (v := .int .i64 4) (by simp [results, Try.results22, go_sem]) rfl HPOST.out
      · have c2 : c > 10000 := by omega
        clear h hes hed hpost hg hr hx hM hc
        go_enter Try.func22, Try.ntmps22
        go_wp2
        exact bodyPost_ret (v := .int .i64 4) (by simp [results, Try.results22, go_sem]) rfl HPOST.out
  · have hes : serr l x c = 1 := by unfold serr; rw [if_neg hx]
    have hed : edt l x c = l := by unfold edt; rw [if_neg (fun h => hx h.1)]
    have hpost : SetSays w0 n s t P M AE cE TI TO FI FO SC cC SL cL H l D R Aw mw cw L wk x c w (.returned (.int .i64 1)) w := ⟨by rw [hes], R, Aw, mw, cw, L, Lib.hid (by rw [hed]; exact h), Nat.le_succ _, KW.refl w, Nat.le_refl _, Lib.hid fun h => by rw [hed]; exact h⟩
    have HPOST := Lib.hid hpost
    by_cases c1 : x < 0
    · clear h hes hed hpost hg hr hx hM
      go_enter Try.func22, Try.ntmps22
      go_wp2
      exact bodyPost_ret (v := .int .i64 1) (by simp [results, Try.results22, go_sem]) rfl HPOST.out
    · have c2 : x ≥ (M : Int) := by omega
      clear h hes hed hpost hg hr hx hM
      go_enter Try.func22, Try.ntmps22
      go_wp2
      exact bodyPost_ret (v := .int .i64 1) (by simp [results, Try.results22, go_sem]) rfl HPOST.out
set_option maxRecDepth 100000 in
set_option maxHeartbeats 2000000 in
theorem net_any (h : LM w0 w n s t P M AE cE TI TO FI FO SC cC SL cL H l D R Aw mw cw L wk) (hlen : l.length ≤ 600) : Calls Try.prog 17 #[.pointer (some ⟨P, 0, none⟩)] w fun e w' => SomeNet n l w e w' := by
  obtain ⟨z0, z1, _, _, _, _, _, _, _, _, _, zp⟩ := h.zs
  have hM := h.ll
  have hsl := h.net.sl.2
  have hnil : AE = none → M = 0 ∧ cE = 0 := by obtain ⟨A', c', he, _, hn⟩ := h.net.form; injection he with a b c; subst a b c; exact fun e => by have := hn e; omega
  subst hM
  have hw1 : Below w.heap.size w (w.alloc (.cells #[.int .i64 0, .slice none 0 0] 24)) := (Below.refl _ _).alloc (Nat.le_refl _) _
  have kk := John.copy_any n AE cE l (w.alloc (.cells #[.int .i64 0, .slice none 0 0] 24)) ((hsl.keep hw1 (Nat.le_refl _)).more (by simp)) hnil hlen
  have KK := Lib.hid kk
  clear h hsl kk hnil
  go_enter Try.func17, Try.ntmps17
  go_upto_region 1 with fail
  go_wp2_with fail
  refine KK.out.mono ?_
  rintro e w9 ⟨A9, c9, rfl, own9, hb9⟩
  have hR := blk_below (heap_alloc_new w (.cells #[.int .i64 0, .slice none 0 0] 24)) hb9 (by simp)
  have hc0 := blk_cell hR 0
  have hc1 := blk_cell hR 1
  have hf0 := blk_free hR 0
  have hf1 := blk_free hR 1
  simp only [List.getElem?_toArray, List.getElem?_cons_zero, List.getElem?_cons_succ] at hc0 hc1
  have zR := lt_of_block hR
  have hne := own9.ne_ hR (by decide)
  have hfin : SomeNet n l w (.returned (.agg #[.int .i64 n, .slice A9 l.length c9])) ((w9.setCell ⟨w.heap.size, 0, none⟩ (.int .i64 n)).setCell ⟨w.heap.size, 1, none⟩ (.slice A9 l.length c9)) :=
    ⟨A9, c9, rfl, ((own9.mono (by simp)).setCell hne _).setCell hne _, ((hw1.trans (hb9.mono (by simp))).setCell (Nat.le_refl _) _).setCell (Nat.le_refl _) _⟩
  have HFIN := Lib.hid hfin
  clear own9 hb9 hR hne hfin KK hw1
  go_wp2
  exact bodyPost_ret (v := .agg #[.int .i64 n, .slice A9 l.length c9]) (by simp [results, Try.results17, go_sem, hc0, hc1]) rfl HFIN.out
end
end Go.Proofs.Ytamphgcpfncenaa.Life
