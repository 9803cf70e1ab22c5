/- The walk of comp.Order. -/
import Derived.Test.YtjhnlkmdkjlkdaaVCompOMem
import Derived.Test.YtjhnlkmdkjlkdaaVCompOf
import Derived.Deep.LoopGhost
import Derived.Deep.CutRange
namespace Go.Proofs.Ytjhnlkmdkjlkdaa.CompO
open Go.RowKit Go.Proofs.Ytjhnlkmdkjlkdaa NetLaw BellLaw HeapLaw DagLaw CompLaw CompOrd Go.Proofs.Ytjhnlkmdkjlkdaa.Net Go.Proofs.Ytjhnlkmdkjlkdaa.Heap Go.Proofs.Ytjhnlkmdkjlkdaa.HeapComp Go.Proofs.Ytjhnlkmdkjlkdaa.Std
open Go.Proofs.Ytjhnlkmdkjlkdaa.Comp (of_yes of_no OfSays)
set_option linter.unusedSimpArgs false
set_option linter.unusedVariables false
/-- what Order answers of a right net -/
def CoSays (n : Nat) (l : List E) (w : World) (e : Ending) (w' : World) : Prop :=
  ∃ Ao co mo out C, e = .returned (.tuple #[.slice Ao mo co, .int .i64 0]) ∧ Own w' w.heap.size 3 1 ci (.slice Ao mo co) out ∧ Hid (out.length = mo) ∧ Hid (C.length = n) ∧ Hid (∀ v : Nat, v < n → Lst l v (C.getD v 0)) ∧ Hid (Od (fun v => cmf C v = v) n (fun u v => ∃ e ∈ cl (cmf C) l, e.1 = u ∧ e.2.1 = v) out) ∧ Below w.heap.size w w'
/-- the rows' places: whose knot each is -/
structure Cr (n : Nat) (l : List E) (C : List Int) : Prop where
  len : C.length = n
  lst : ∀ v : Nat, v < n → Lst l v (C.getD v 0)
  rng : ∀ v : Nat, v < n → 0 ≤ C.getD v 0 ∧ C.getD v 0 < n
theorem Cr.of {n : Nat} {l : List E} {C : List Int} (hends : ∀ e ∈ l, 0 ≤ e.1 ∧ e.1 < n ∧ 0 ≤ e.2.1 ∧ e.2.1 < n) (h1 : C.length = n) (h2 : ∀ v : Nat, v < n → Lst l v (C.getD v 0)) : Cr n l C :=
  ⟨h1, h2, fun v hv => Ld.closed (P := fun y => 0 ≤ y ∧ y < n) (fun e he _ => ⟨(hends e he).2.2.1, (hends e he).2.2.2⟩) (h2 v hv).1 (by omega)⟩
theorem cmf_at (C : List Int) (v : Nat) : cmf C v = C.getD v 0 := by unfold cmf dg; rw [Int.toNat_natCast]
set_option maxRecDepth 100000 in
set_option maxHeartbeats 8000000 in
theorem order_yes (n : Nat) (A : Option Addr) (c : Nat) (l : List E) (w : World) (hl : Sl w w.heap.size 3 ce A l) (hg : NetLaw.Good n l) :
    Calls Try.prog 20 #[.agg #[.int .i64 n, .slice A l.length c]] w fun e w' => CoSays n l w e w' := by
  obtain ⟨i0, hi, hz0, hz1, hz2⟩ := info_parts infoI
  have hN := hg.hi
  have hlen := hg.len
  have hw0 : Below w.heap.size w (w.alloc (.cells #[.int .i64 n, .slice A l.length c] 24)) := (Below.refl _ _).alloc (Nat.le_refl _) _
  have key := of_yes n A c l _ ((hl.keep hw0 (Nat.le_refl _)).more (show w.heap.size ≤ (w.alloc (.cells #[.int .i64 n, .slice A l.length c] 24)).heap.size by simp)) hg
  have hmk : ∀ w, (Instr.makeSlice 25 (.int .i64 (n : Int)) (.int .i64 (n : Int))).run Try.prog w = .ok (.slice (some ⟨w.heap.size, 0, none⟩) n n) (w.alloc (.cells (madeCells #[.int .i64 0] n) 3)) :=
    run_make_row' (P := Try.prog) 25 3 (.int .i64 0) 8 Try.underlying25 (by kernel_rfl) rfl .i64 .i64 n (by omega) (by omega)
  have box0 := heap_alloc_new w (.cells #[.int .i64 n, .slice A l.length c] 24)
  have hends := hg.ends
  have KEY := Lib.hid key
  have BOX0 := Lib.hid box0
  have HG := Lib.hid hg
  have HE := Lib.hid hends
  have HSL0 := Lib.hid hl
  clear key box0 hg hends
  go_enter Try.func20, Try.ntmps20
  go_wp2_with fail
  refine KEY.out.mono ?_
  rintro e w1 ⟨O, C, rfl, hof, hC1, hC2, hb1⟩
  have hcr := Lib.hid (Cr.of HE.out hC1.out hC2.out)
  have H1 := hw0.trans (hb1.mono (by simp))
  have hbox := blk_below BOX0.out hb1 (by simp)
  have q0 := blk_cell hbox 0
  have q1 := blk_cell hbox 1
  simp only [List.getElem?_toArray, List.getElem?_cons_zero, List.getElem?_cons_succ] at q0 q1
  have hz1' : w.heap.size < w1.heap.size := lt_of_block hbox
  have hof1 : Own w1 w.heap.size 3 1 ci (.slice (some ⟨O, 0, none⟩) n n) C := hof.mono (by simp)
  have hOl := (hof1.base_ O rfl).2
  have own0 := Grid.own_made n w.heap.size w1 (by omega) (by omega) rfl
  have hbox1 := blk_alloc hbox (.cells (madeCells #[.int .i64 0] n) 3)
  have HB1 := H1.alloc (by omega) (.cells (madeCells #[.int .i64 0] n) 3)
  have OF1 := Lib.hid (hof1.alloc (.cells (madeCells #[.int .i64 0] n) 3))
  have OWN0 := Lib.hid own0
  have HBOX1 := Lib.hid hbox1
  obtain ⟨S, hS⟩ : ∃ S, w1.heap.size = S := ⟨_, rfl⟩
  have hOS : O ≠ S := by omega
  have HSS := Lib.hid hS
  clear own0 hbox hbox1 hb1 KEY hS hof hof1 hOl hw0
  go_upto_region 6 with fail
  have hS := HSS.out
  rw [hS] at OWN0 ⊢
  clear hS HSS
  go_loopw [31] (fun i wr => ∃ (k : Nat) (D : List Int), k ≤ l.length ∧ i = .int .i64 k ∧ Own wr w.heap.size 3 1 ci (.slice (some ⟨S, 0, none⟩) n n) D ∧ Own wr w.heap.size 3 1 ci (.slice (some ⟨O, 0, none⟩) n n) C ∧ Hid (Ck n k l C D) ∧ wr.heap[w.heap.size]? = some (.cells #[.int .i64 n, .slice A l.length c] 24 (0, 0)) ∧ Below w.heap.size w wr) (fun i _ => l.length - (intOf i).toNat)
  case atStart => exact ⟨0, _, Nat.zero_le _, rfl, OWN0.out, OF1.out, Lib.hid (Ck.zero n l C), HBOX1.out, HB1⟩
  case round =>
    clear OWN0 HBOX1 HB1 q0 q1 OF1 H1 hz1'
    obtain ⟨k, D, hk, rfl, own, hof, hcn, hbox, hB⟩ := hrel
    by_cases hlt : k < l.length
    · obtain ⟨b, off, f, t, co, rfl, hbB, he, hcf, hct, hcc⟩ := (hl.keep hB (Nat.le_refl _)).atE hlt
      have hen := HE.out _ (List.getElem_mem hlt)
      rw [he] at hen
      obtain ⟨f0, f1, t0, t1⟩ := hen
      simp only at f0 f1 t0 t1
      obtain ⟨t, rfl⟩ := Int.eq_ofNat_of_zero_le t0
      obtain ⟨f, rfl⟩ := Int.eq_ofNat_of_zero_le f0
      have htn : t < n := by omega
      have hfn : f < n := by omega
      obtain ⟨of0, _⟩ := own_at1 hcr.out.len hof hfn
      obtain ⟨of1, _⟩ := own_at1 hcr.out.len hof htn
      obtain ⟨x0, x1⟩ := hcr.out.rng t htn
      have hck1 := fun (hne : C.getD f 0 ≠ C.getD t 0) (g : Nat) (hg : C.getD t 0 = g) (hgn : g < n) => hcn.out.step hlt g (by rw [he]; show cmf C (f : Int) ≠ cmf C (t : Int); rw [cmf_at, cmf_at]; exact hne) (by rw [he]; show cmf C (t : Int) = _; rw [cmf_at]; exact hg) hgn
      have hck2 := fun (hne : C.getD f 0 = C.getD t 0) => hcn.out.skip hlt (by rw [he]; show cmf C (f : Int) = cmf C (t : Int); rw [cmf_at, cmf_at]; exact hne)
      have hbw : b < wr.heap.size := by have := hB.size; omega
      have hOw := (hof.base_ O rfl).2
      have edg : (wr.alloc (.cells #[.int .i64 f, .int .i64 t, .int .i64 co] 30)).heap[wr.heap.size]? = _ := heap_alloc_new wr _
      have own2 := own.alloc (.cells #[.int .i64 f, .int .i64 t, .int .i64 co] 30)
      have hof2 := hof.alloc (.cells #[.int .i64 f, .int .i64 t, .int .i64 co] 30)
      have hbox2 := blk_alloc hbox (.cells #[.int .i64 f, .int .i64 t, .int .i64 co] 30)
      have hB2 := hB.alloc hB.size (.cells #[.int .i64 f, .int .i64 t, .int .i64 co] 30)
      have HCN := Lib.hid hcn.out.len
      have HBD := Lib.hid (fun (v : Nat) (hv : v < n) => hcn.out.bd hlen (v := (v : Int)) (by omega) (by omega))
      have OWN2 := Lib.hid own2
      have OF2 := Lib.hid hof2
      have HBOX2 := Lib.hid hbox2
      have HB2 := Lib.hid hB2
      have HCK1 := Lib.hid hck1
      have HCK2 := Lib.hid hck2
      have OFA := Lib.hid of0
      have OFB := Lib.hid of1
      have EDG := Lib.hid edg
      clear own hof hbox hcn own2 hof2 hbox2 hB2 he hck1 hck2 t0 f0 of0 of1 edg hB
      go_upto_region 8 with fail
      obtain ⟨gE, hgE⟩ : ∃ gE, gE = wr.heap.size := ⟨_, rfl⟩
      rw [← hgE] at EDG ⊢
      generalize wr.alloc (.cells #[.int .i64 f, .int .i64 t, .int .i64 co] 30) = w2 at OWN2 OF2 HBOX2 HB2 EDG ⊢
      have e0 := blk_cell EDG.out 0
      have e1 := blk_cell EDG.out 1
      simp only [List.getElem?_toArray, List.getElem?_cons_zero, List.getElem?_cons_succ] at e0 e1
      obtain ⟨of0, _⟩ := own_at1 hcr.out.len OF2.out hfn
      obtain ⟨of1, _⟩ := own_at1 hcr.out.len OF2.out htn
      have zE := lt_of_block EDG.out
      have zO := (OF2.out.base_ O rfl).2
      have hft3 : (f : Int) < (n : Int) := by omega
      have htt3 : (t : Int) < (n : Int) := by omega
      clear OFA OFB hOw hbw hgE hcf hct hcc
      by_cases hxe : C.getD f 0 = C.getD t 0
      · have ck2 := Lib.hid (HCK2.out hxe)
        rw [hxe] at of0
        generalize C.getD t 0 = x at of0 of1 x0 x1
        have hxx : (x != x) = false := by simp
        clear hxe HCK1 HCK2
        go_region
        all_goals
          have OWN3 := Lib.hid (OWN2.out.drewN 1)
          have OF3 := Lib.hid (OF2.out.drewN 1)
          have HB3 := Lib.hid (below_drewN HB2.out 1)
          go_wp2
          go_roundw
          case' rel => exact ⟨k + 1, D, by omega, by go_num, OWN3.out, OF3.out, ck2, HBOX2.out, HB3.out⟩
          case' measure => simp [intOf]; omega
      · obtain ⟨g, hg⟩ := Int.eq_ofNat_of_zero_le x0
        have hgn : g < n := by omega
        have ck1 := Lib.hid (HCK1.out hxe g hg hgn)
        have hbd := HBD.out g hgn
        rw [hg] at of1 hxe
        obtain ⟨y, hy⟩ : ∃ y, C.getD f 0 = y := ⟨_, rfl⟩
        rw [hy] at of0 hxe
        have hxx : (y != (g : Int)) = true := by rw [bne_iff_ne]; exact hxe
        have hgn3 : (g : Int) < (n : Int) := by omega
        obtain ⟨hb0, hb1⟩ := hbd
        obtain ⟨dc, df⟩ := own_at1 HCN.out OWN2.out hgn
        rw [show D.getD g 0 = dg D (g : Int) by rw [dg, Int.toNat_natCast]] at dc
        have own3 := HeapComp.own_set1 HCN.out OWN2.out g hgn (dg D (g : Int) + 1)
        have of3 := OF2.out.setCell (p := ⟨S, g, none⟩) (fun e => hOS (by injection e)) (.int .i64 (dg D (g : Int) + 1))
        have hbx2 : w.heap.size ≠ S := fun e => OWN2.out.ne_ (e ▸ HBOX2.out) (by decide) rfl
        have box3 := blk_far HBOX2.out (p := ⟨S, g, none⟩) hbx2 (.int .i64 (dg D (g : Int) + 1))
        have hb3 := (below_drewN HB2.out 1).setCell (p := ⟨S, g, none⟩) (OWN2.out.base_ S rfl).1 (.int .i64 (dg D (g : Int) + 1))
        have zS := (OWN2.out.base_ S rfl).2
        have OWN3 := Lib.hid own3
        have OF3 := Lib.hid of3
        have BOX3 := Lib.hid box3
        have HB3 := Lib.hid hb3
        generalize dg D (g : Int) = x at *
        clear hy hg hxe HCK1 HCK2 own3 of3 box3 hb3 hbx2 x0 x1 HBD
        go_region
        all_goals
          go_wp2
          go_roundw
          case' rel => exact ⟨k + 1, _, by omega, by go_num, OWN3.out, OF3.out, ck1, BOX3.out, HB3.out⟩
          case' measure => simp [intOf]; omega
    · obtain rfl : k = l.length := by omega
      have hcn' := hcn.out
      have hat := hcn'.at_
      rw [List.take_length] at hat
      have hdl := hcn'.len
      have HAT := Lib.hid hat
      have HDL := Lib.hid hdl
      have knew := HeapComp.new_i wr
      have KNEW := Lib.hid knew
      have OWN := Lib.hid own
      have OF := Lib.hid hof
      have HBOX := Lib.hid hbox
      clear hat hdl knew own hof hbox hcn hcn' hlt hl
      go_wp2_with fail
      refine KNEW.out.mono ?_
      rintro e w2 ⟨H, rfl, hh2, hb2⟩
      have mq2 : Mq w w2 n A c l S H O none 0 0 [] D C none 0 0 [] := ⟨⟨blk_below HBOX.out hb2 (lt_of_block HBOX.out), OWN.out.keep hb2, HDL.out, ⟨Nat.le_trans hB.size hh2.hb, hh2.blk, hh2.own.mono hB.size, hh2.len⟩, (fun e => by cases e), hB.trans (hb2.mono hB.size)⟩, OF.out.keep hb2, hcr.out.len, hOS, (fun e => by cases e), Own.nil_, rfl, (fun e => by cases e), (fun e => by cases e), (fun g e => by cases e)⟩
      have MQ2 := Lib.hid mq2
      clear mq2 hh2 hb2 OWN OF HBOX hB
      go_upto_region 13 with fail
      go_loopw [60] (fun i wy => ∃ (k : Nat) (Ah : Option Addr) (m ch : Nat) (L : List Int), k ≤ n ∧ i = .int .i64 k ∧ Mq w wy n A c l S H O Ah m ch L D C none 0 0 [] ∧ Hp 0 ltI L ∧ Hid (Pk n k C D L) ∧ m ≤ k) (fun i _ => n - (intOf i).toNat)
      case atStart => exact ⟨0, none, 0, 0, [], Nat.zero_le _, rfl, MQ2.out, Hp.nil, Lib.hid (Pk.zero n C D), Nat.le_refl _⟩
      case round =>
        clear MQ2
        obtain ⟨k, Ah, m, ch, L, hk, rfl, hmq, hhp, hpk, hmk⟩ := hrel
        by_cases hlt : k < n
        · obtain ⟨dc, df⟩ := own_at1 hmq.mm.dlen hmq.mm.ahead hlt
          obtain ⟨oc, _⟩ := own_at1 hcr.out.len hmq.of_ hlt
          rw [show D.getD k 0 = dg D (k : Int) by rw [dg, Int.toNat_natCast]] at dc
          have hkn : (k : Int) < (n : Int) := by omega
          have HMQ := Lib.hid hmq
          have HHP := Lib.hid hhp
          by_cases hck : C.getD k 0 = k
          · by_cases hz : dg D (k : Int) = 0
            · have kpush := push_i w.heap.size H Ah m ch L k wr hmq.mm.heap hhp (by omega) hmq.mm.lo.size
              have pk3 := Lib.hid (fun L' hp => hpk.out.yes (L' := L') ⟨(cmf_at C k).trans hck, hz⟩ hp)
              rw [hz] at dc
              rw [hck] at oc
              have hkk : ((k : Int) == (k : Int)) = true := by simp
              have KPUSH := Lib.hid kpush
              clear kpush hz hmq hpk hhp hck
              go_wp2_with fail
              refine KPUSH.out.mono ?_
              rintro e w3 ⟨⟨v, rfl⟩, A3, c3, L3, hh3, hpm3, hhp3, hkp3, hat3⟩
              have mq3 := HMQ.out.kp hkp3 hh3 (fun g hg => by have := hat3 g ((obs' ..).trans hg); rwa [ob_eq] at this)
              have MQ3 := Lib.hid mq3
              have ph3 := Lib.hid (pk3.out L3 hpm3)
              clear mq3 hh3 hkp3 hat3 hpm3 dc df oc
              go_wp2
              go_roundw
              case rel => exact ⟨k + 1, A3, m + 1, c3, L3, by omega, by go_num, MQ3.out, hhp3, ph3, by omega⟩
              case measure => simp [intOf]; omega
            · have hne : (dg D (k : Int) == 0) = false := by rw [beq_eq_false_iff_ne]; exact hz
              have ph3 := Lib.hid (hpk.out.no (fun h => hz h.2))
              rw [hck] at oc
              have hkk : ((k : Int) == (k : Int)) = true := by simp
              generalize dg D (k : Int) = x at *
              clear hz hmq hpk hhp hck
              go_wp2
              go_roundw
              case rel => exact ⟨k + 1, Ah, m, ch, L, by omega, by go_num, HMQ.out, HHP.out, ph3, by omega⟩
              case measure => simp [intOf]; omega
          · have hkk : ((k : Int) == C.getD k 0) = false := by rw [beq_eq_false_iff_ne]; exact fun e => hck e.symm
            have ph3 := Lib.hid (hpk.out.no (fun h => hck ((cmf_at C k).symm.trans h.1)))
            generalize C.getD k 0 = x at *
            clear hmq hpk hhp hck dc df
            go_wp2
            go_roundw
            case rel => exact ⟨k + 1, Ah, m, ch, L, by omega, by go_num, HMQ.out, HHP.out, ph3, by omega⟩
            case measure => simp [intOf]; omega
        · obtain rfl : n = k := by omega
          have hdd : ∀ v : Int, 0 ≤ v → v < n → dg D v = ((tdn (cl (cmf C) l) v : Nat) : Int) := HAT.out
          have hki := hpk.out.start HDL.out hdd
          have HMQ := Lib.hid hmq
          have HHP := Lib.hid hhp
          have HKI := Lib.hid hki
          clear hki hmq hpk hhp hlt hdd
          go_upto_region 19 with fail
          go_loopg [12] n (fun g s12 wz => ∃ (Ah : Option Addr) (m ch : Nat) (L D : List Int) (Ao : Option Addr) (mo co : Nat) (out : List Int), s12 = .slice Ao mo co ∧ Mq w wz n A c l S H O Ah m ch L D C Ao mo co out ∧ Hp 0 ltI L ∧ Hid (KG (fun v => cmf C v = v) n (cl (cmf C) l) D L out []) ∧ n - mo ≤ g ∧ g ≤ n)
          case atStart => exact ⟨Ah, m, ch, L, D, none, 0, 0, [], rfl, HMQ.out, HHP.out, HKI, by omega, Nat.le_refl _⟩
          case round =>
            clear HMQ HHP HKI HDL HAT
            obtain ⟨Ah, m, ch, L, D, Ao, mo, co, out, rfl, hmq, hhp, hki, hgh, hgb⟩ := hrel
            have hmm := hmq.mm
            have klen := len_i wr hmm.heap
            have hLm := hmm.heap.len
            have r0 := blk_cell hmm.box 0
            have r1 := blk_cell hmm.box 1
            simp only [List.getElem?_toArray, List.getElem?_cons_zero, List.getElem?_cons_succ] at r0 r1
            by_cases hm0 : m = 0
            · subst hm0
              have hL : L = [] := List.eq_nil_of_length_eq_zero hLm
              subst hL
              have KLEN := Lib.hid klen
              have HMQ := Lib.hid hmq
              have HOD := Lib.hid hki.out.od
              have fin : ∀ W, Mq w W n A c l S H O Ah 0 ch [] D C Ao mo co out → CoSays n l w (.returned (.tuple #[.slice Ao mo co, .int .i64 0])) W := fun W hq => ⟨Ao, co, mo, out, C, rfl, hq.ow, Lib.hid hq.olen, Lib.hid hcr.out.len, Lib.hid hcr.out.lst, HOD, hq.mm.lo⟩
              have FIN := Lib.hid fin
              clear klen hmq hmm hLm hgh fin hki
              go_wp2_with fail
              refine KLEN.out.mono ?_
              rintro e w5 ⟨rfl, rfl⟩
              go_wp2
              go_ret2
              exact FIN.out _ HMQ.out
            · obtain ⟨m, rfl⟩ : ∃ k, m = k + 1 := ⟨m - 1, by omega⟩
              have hle := hki.out.len_le
              rw [hLm, hmq.olen] at hle
              have kpop := pop_i w.heap.size H Ah m ch L wr hmm.heap hhp (by omega) hmm.lo.size
              have KLEN := Lib.hid klen
              have KPOP := Lib.hid kpop
              have HMQ := Lib.hid hmq
              have HMIN := Lib.hid (fun u hu => Hp.top_mem ltI_ord hhp u hu)
              clear klen kpop hmq hmm hLm hm0 r0 r1 hhp
              go_wp2_with fail
              refine KLEN.out.mono ?_
              rintro e w5 ⟨rfl, rfl⟩
              go_wp2_with fail
              refine KPOP.out.mono ?_
              rintro e w6 ⟨p, L5, rfl, hg0, hh5, hpm5, hhp5, hkp⟩
              have mq6 := HMQ.out.kp hkp hh5 (fun g hg => .inl hg)
              have hmin5 : ∀ u ∈ L5, p ≤ u := fun u hu => by
                have h1 := HMIN.out u (hpm5.mem_iff.1 (List.mem_cons_of_mem _ hu))
                rw [hg0] at h1
                unfold ltI at h1
                simp only [decide_eq_false_iff_not] at h1
                omega
              obtain ⟨htake, ⟨p0, p1⟩, _⟩ := hki.out.take hpm5 hmin5
              obtain ⟨q, rfl⟩ := Int.eq_ofNat_of_zero_le p0
              have hqn : q < n := by omega
              have htake' : KG (fun v => cmf C v = v) n (cl (cmf C) l) D L5 (out ++ [(q : Int)]) (tk (cmf C) q (l.drop 0)) := htake
              have HTAKE := Lib.hid htake'
              have MQ6 := Lib.hid mq6
              have HHP5 := Lib.hid hhp5
              have hown1 := mq6.ow.alloc (.cells #[.int .i64 q] 3)
              have hmo1 : mo + 1 ≤ n := by omega
              have hz6 := mq6.mm.lo.size
              have OLEN := Lib.hid mq6.olen
              clear HMIN hmin5 htake htake' mq6 hhp5 hg0 hh5 hpm5 hkp hki HMQ p0
              go_upto_region 22 with (at_builtin; go_must (refine wpList_push _ rfl (.tmp 84) (.tmp 86) _ rfl w.heap.size 3 i0 (.int .i64 0) 1 8 ci Try.underlying25 hi hz0 hz1 hz2 rfl (by decide) _ out mo OLEN.out rfl hown1 w6.heap.size 1 (q : Int) rfl news1 (fun _ _ => one_ci _ _) (by omega) (by omega) (by simp; omega) ?_; intro A7 c7 w7 hown7 hgrow7 hat7))
              have mq7 := (MQ6.out.alloc _).grow hgrow7 hown7 (by simp [OLEN.out]) (by rcases hat7 with h1 | h1; exact .inl ((ob_eq A7 (mo + 1) c7).symm.trans (h1.trans (ob_eq Ao mo co))); exact .inr ⟨_, (ob_eq ..).symm.trans h1, by simp⟩)
              have MQ7 := Lib.hid mq7
              have r0 := blk_cell mq7.mm.box 0
              have r1 := blk_cell mq7.mm.box 1
              simp only [List.getElem?_toArray, List.getElem?_cons_zero, List.getElem?_cons_succ] at r0 r1
              have hzb := lt_of_block mq7.mm.box
              clear hown7 hgrow7 hat7 mq7 hown1 MQ6
              go_upto_region 23 with fail
              go_loopw [91] (fun i wy => ∃ (j : Nat) (A6 : Option Addr) (m6 c6 : Nat) (L6 D6 : List Int), j ≤ l.length ∧ i = .int .i64 j ∧ Mq w wy n A c l S H O A6 m6 c6 L6 D6 C A7 (mo + 1) c7 (out ++ [(q : Int)]) ∧ Hp 0 ltI L6 ∧ Hid (KG (fun v => cmf C v = v) n (cl (cmf C) l) D6 L6 (out ++ [(q : Int)]) (tk (cmf C) q (l.drop j)))) (fun i _ => l.length - (intOf i).toNat)
              case atStart => exact ⟨0, Ah, m, ch, L5, D, Nat.zero_le _, rfl, MQ7.out, HHP5.out, HTAKE⟩
              case round =>
                clear MQ7 HHP5 HTAKE r0 r1 hzb
                obtain ⟨j, A6, m6, c6, L6, D6, hj, rfl, hmq6, hhp6, hki6⟩ := hrel
                by_cases hjk : j < l.length
                · obtain ⟨b, off, f, t, ec, rfl, hbB, he, hcf, hct, hcc⟩ := (HSL0.out.keep hmq6.mm.lo (Nat.le_refl _)).atE hjk
                  have hen := HE.out _ (List.getElem_mem hjk)
                  have htd : l.drop j = l[j] :: l.drop (j + 1) := List.drop_eq_getElem_cons hjk
                  rw [he] at hen htd
                  obtain ⟨f0, f1, t0, t1⟩ := hen
                  simp only at f0 f1 t0 t1
                  obtain ⟨t, rfl⟩ := Int.eq_ofNat_of_zero_le t0
                  obtain ⟨f, rfl⟩ := Int.eq_ofNat_of_zero_le f0
                  have htn : t < n := by omega
                  have hfn : f < n := by omega
                  have hki' := hki6.out
                  rw [htd] at hki'
                  obtain ⟨x0, x1⟩ := hcr.out.rng t htn
                  obtain ⟨g, hg⟩ := Int.eq_ofNat_of_zero_le x0
                  have hgn : g < n := by omega
                  have hcg : cmf C (g : Int) = g := by
                    rw [cmf_at]
                    have h1 := hcr.out.lst t htn
                    rw [hg] at h1
                    exact (hcr.out.lst g hgn).uniq ⟨.here, .here, fun x h2 h3 => h1.2.2 x (h1.1.trans h2) (h3.trans h1.2.1)⟩
                  have hbw : b < wr.heap.size := by have := hmq6.mm.lo.size; omega
                  have zO := hmq6.oflt
                  have HMQ6 := Lib.hid (hmq6.alloc (.cells #[.int .i64 f, .int .i64 t, .int .i64 ec] 30))
                  have edg : (wr.alloc (.cells #[.int .i64 f, .int .i64 t, .int .i64 ec] 30)).heap[wr.heap.size]? = _ := heap_alloc_new wr _
                  have EDG := Lib.hid edg
                  have hmw : ∀ (x : Nat), x < wr.heap.size → x < (wr.alloc (.cells #[.int .i64 f, .int .i64 t, .int .i64 ec] 30)).heap.size := fun x hx => by simp; omega
                  clear hki6 htd he t0 f0 edg hmq6 hmw
                  go_upto_region 25 with fail
                  obtain ⟨gE, hgE⟩ : ∃ gE, gE = wr.heap.size := ⟨_, rfl⟩
                  rw [← hgE] at EDG ⊢
                  generalize wr.alloc (.cells #[.int .i64 f, .int .i64 t, .int .i64 ec] 30) = w2 at HMQ6 EDG ⊢
                  have e0 := blk_cell EDG.out 0
                  have e1 := blk_cell EDG.out 1
                  simp only [List.getElem?_toArray, List.getElem?_cons_zero, List.getElem?_cons_succ] at e0 e1
                  obtain ⟨of0, _⟩ := own_at1 hcr.out.len HMQ6.out.of_ hfn
                  obtain ⟨of1, _⟩ := own_at1 hcr.out.len HMQ6.out.of_ htn
                  have zE := lt_of_block EDG.out
                  have zO := HMQ6.out.oflt
                  have hft3 : (f : Int) < (n : Int) := by omega
                  have htt3 : (t : Int) < (n : Int) := by omega
                  have hgn3 : (g : Int) < (n : Int) := by omega
                  have hjl : (j : Int) < (l.length : Int) := by omega
                  rw [hg] at of1
                  clear hgE hcf hct hcc hbw EDG x0 x1
                  have hno := fun (h : C.getD f 0 ≠ q ∨ (g : Int) = q) => (by
                    have h1 := hki'
                    rw [tk_no (by show cmf C (f : Int) ≠ _ ∨ cmf C (t : Int) = _; rw [cmf_at, cmf_at, hg]; exact h)] at h1
                    exact h1 : KG (fun v => cmf C v = v) n (cl (cmf C) l) D6 L6 (out ++ [(q : Int)]) (tk (cmf C) q (l.drop (j + 1))))
                  have hyes := fun (h1 : C.getD f 0 = q) (h2 : (g : Int) ≠ q) => (by
                    have h3 := hki'
                    rw [tk_yes (by show cmf C (f : Int) = _; rw [cmf_at]; exact h1) (by show cmf C (t : Int) ≠ _; rw [cmf_at, hg]; exact h2)] at h3
                    have e : cmf C ((f : Int), (t : Int), ec).2.1 = (g : Int) := by show cmf C (t : Int) = _; rw [cmf_at, hg]
                    rw [e] at h3
                    exact h3 : KG (fun v => cmf C v = v) n (cl (cmf C) l) D6 L6 (out ++ [(q : Int)]) (((q : Int), (g : Int), 0) :: tk (cmf C) q (l.drop (j + 1))))
                  have HNO := Lib.hid hno
                  have HYES := Lib.hid hyes
                  have HHP6 := Lib.hid hhp6
                  clear hno hyes hki' hhp6 hg
                  by_cases hfq : C.getD f 0 = q
                  · rw [hfq] at of0
                    by_cases hgq : (g : Int) = q
                    · have KI9 := Lib.hid (HNO.out (.inr hgq))
                      have h1 : ((q : Int) == (q : Int)) = true := by simp
                      have h2 : ((g : Int) != (q : Int)) = false := by rw [hgq]; simp
                      clear HNO HYES hfq hgq
                      go_wp2
                      go_roundw
                      case' rel => exact ⟨j + 1, A6, m6, c6, L6, D6, by omega, by go_num, HMQ6.out, HHP6.out, KI9⟩
                      case' measure => simp [intOf]; omega
                    · have hki9 := HYES.out hfq hgq
                      have h1 : ((q : Int) == (q : Int)) = true := by simp
                      have h2 : ((g : Int) != (q : Int)) = true := by rw [bne_iff_ne]; exact hgq
                      obtain ⟨hx1, hdz, hdn⟩ := hki9.dec (by show (0 : Int) ≤ g; omega) (by show (g : Int) < n; omega) hcg
                      simp only [Int.toNat_natCast] at hx1 hdz hdn
                      have hbd := kg_bd hki9 (Nat.le_trans (cl_len _ _) hlen) (by have := tk_len (cmf C) q (l.drop (j + 1)); rw [List.length_drop] at this; simp; omega) (v := (g : Int)) (by omega) (by omega)
                      obtain ⟨dc, df⟩ := own_at1 HMQ6.out.mm.dlen HMQ6.out.mm.ahead hgn
                      rw [show D6.getD g 0 = dg D6 (g : Int) by rw [dg, Int.toNat_natCast]] at dc
                      have hl6 := hki9.len_le
                      rw [HMQ6.out.mm.heap.len] at hl6
                      have HDZ := Lib.hid hdz
                      have HDN := Lib.hid hdn
                      have zS := HMQ6.out.mm.aheadS.1
                      clear hdz hdn hki9 HNO HYES hfq hgq hcg
                      obtain ⟨hb0', hb1'⟩ := hbd
                      by_cases hz : dg D6 (g : Int) - 1 = 0
                      · have hxe : dg D6 (g : Int) = 1 := by omega
                        have mq8 := HMQ6.out.set g hgn 0
                        have kpush := push_i w.heap.size H A6 m6 c6 L6 g _ mq8.mm.heap HHP6.out (by omega) mq8.mm.lo.size
                        have hdz := HDZ.out hz
                        rw [hz] at hdz
                        rw [hxe] at dc
                        have KPUSH := Lib.hid kpush
                        have MQ8 := Lib.hid mq8
                        have HDZ2 := Lib.hid hdz
                        clear kpush mq8 hdz HDZ HDN hz hxe hx1 hb0' hb1' hl6
                        go_wp2_with fail
                        refine KPUSH.out.mono ?_
                        rintro e w8 ⟨⟨v, rfl⟩, A8, c8, L8, hh8, hpm8, hhp8, hkp8, hat8⟩
                        have mq9 := MQ8.out.kp hkp8 hh8 (fun g hg => by have := hat8 g ((obs' ..).trans hg); rwa [ob_eq] at this)
                        have ki9 := Lib.hid (HDZ2.out L8 hpm8)
                        have MQ9 := Lib.hid mq9
                        clear mq9 hh8 hpm8 hkp8 hat8 dc df e0 e1 of0 of1
                        go_wp2
                        go_roundw
                        case rel => exact ⟨j + 1, A8, m6 + 1, c8, L8, _, by omega, by go_num, MQ9.out, hhp8, ki9⟩
                        case measure => simp [intOf]; omega
                      · have hd : (dg D6 (g : Int) - 1 == 0) = false := by rw [beq_eq_false_iff_ne]; exact hz
                        have mq8 := Lib.hid (HMQ6.out.set g hgn (dg D6 (g : Int) - 1))
                        have ki9 := Lib.hid (HDN.out hz)
                        generalize dg D6 (g : Int) = x at *
                        clear HDZ HDN hz hl6
                        go_wp2
                        go_roundw
                        case rel => exact ⟨j + 1, A6, m6, c6, L6, _, by omega, by go_num, mq8.out, HHP6.out, ki9⟩
                        case measure => simp [intOf]; omega
                  · have KI9 := Lib.hid (HNO.out (.inl hfq))
                    have h1 : (C.getD f 0 == (q : Int)) = false := by rw [beq_eq_false_iff_ne]; exact hfq
                    generalize C.getD f 0 = y at *
                    clear HNO HYES hfq
                    go_wp2
                    go_roundw
                    case' rel => exact ⟨j + 1, A6, m6, c6, L6, D6, by omega, by go_num, HMQ6.out, HHP6.out, KI9⟩
                    case' measure => simp [intOf]; omega
                · obtain rfl : j = l.length := by omega
                  have hki' := hki6.out
                  rw [List.drop_eq_nil_of_le (Nat.le_refl _)] at hki'
                  have HKI' := Lib.hid hki'
                  have HMQ6 := Lib.hid hmq6
                  clear hki' hki6 hmq6
                  go_wp2
                  go_roundg (n - (mo + 1))
                  case measure => omega
                  case rel => exact ⟨A6, m6, c6, L6, D6, A7, mo + 1, c7, _, rfl, HMQ6.out, hhp6, HKI', Nat.le_refl _, by omega⟩
set_option maxHeartbeats 1000000 in
theorem order_no (N : Int) (A : Option Addr) (c : Nat) (l : List E) (w : World) (hl : Sl w w.heap.size 3 ce A l) (hlen : l.length ≤ 9223372036854775807) (hg : chk N l ≠ 0) :
    Calls Try.prog 20 #[.agg #[.int .i64 N, .slice A l.length c]] w fun e w' => e = .returned (.tuple #[.slice none 0 0, .int .i64 (chk N l)]) ∧ Below w.heap.size w w' := by
  have hw0 : Below w.heap.size w (w.alloc (.cells #[.int .i64 N, .slice A l.length c] 24)) := (Below.refl _ _).alloc (Nat.le_refl _) _
  have key := of_no N A c l _ ((hl.keep hw0 (Nat.le_refl _)).more (show w.heap.size ≤ (w.alloc (.cells #[.int .i64 N, .slice A l.length c] 24)).heap.size by simp)) hlen hg
  have hne : (chk N l != 0) = true := by rw [bne_iff_ne]; exact hg
  generalize chk N l = er at *
  have KEY := Lib.hid key
  clear key hl hg
  go_enter Try.func20, Try.ntmps20
  go_wp2_with fail
  refine KEY.out.mono ?_
  rintro e w1 ⟨rfl, hb1⟩
  have H1 := hw0.trans (hb1.mono (by simp))
  go_wp2
  go_ret2
  exact ⟨rfl, H1⟩
end Go.Proofs.Ytjhnlkmdkjlkdaa.CompO
