/- The walk of dag.Order. -/
import Derived.Test.YtjhnlkmdkjlkdaaDagMem
import Derived.Deep.LoopGhost
namespace Go.Proofs.Ytjhnlkmdkjlkdaa.Dag
open Go.RowKit Go.Proofs.Ytjhnlkmdkjlkdaa NetLaw BellLaw HeapLaw DagLaw Go.Proofs.Ytjhnlkmdkjlkdaa.Net Go.Proofs.Ytjhnlkmdkjlkdaa.Heap Go.Proofs.Ytjhnlkmdkjlkdaa.HeapDag Go.Proofs.Ytjhnlkmdkjlkdaa.Std
set_option linter.unusedSimpArgs false
set_option linter.unusedVariables false

/-- who waits of the first k -/
structure Ph (n k : Nat) (D L : List Int) : Prop where
  nd : L.Nodup
  mem : ∀ v : Int, v ∈ L ↔ 0 ≤ v ∧ v < k ∧ dg D v = 0
theorem Ph.zero (n : Nat) (D : List Int) : Ph n 0 D [] := ⟨List.nodup_nil, fun v => ⟨fun h => (by cases h), fun h => by omega⟩⟩
theorem Ph.no {n k : Nat} {D L : List Int} (h : Ph n k D L) (hk : dg D (k : Int) ≠ 0) : Ph n (k + 1) D L := ⟨h.nd, fun v => by
  rw [h.mem]
  constructor
  · rintro ⟨a, b, c⟩; exact ⟨a, by omega, c⟩
  · rintro ⟨a, b, c⟩
    refine ⟨a, ?_, c⟩
    by_cases e : v = k
    · subst e; exact absurd c hk
    · omega⟩
theorem Ph.yes {n k : Nat} {D L L' : List Int} (h : Ph n k D L) (hk : dg D (k : Int) = 0) (hp : L'.Perm ((k : Int) :: L)) : Ph n (k + 1) D L' := by
  refine ⟨hp.nodup_iff.2 (List.nodup_cons.2 ⟨fun hm => ?_, h.nd⟩), fun v => ?_⟩
  · have := ((h.mem _).1 hm).2.1; omega
  · rw [hp.mem_iff, List.mem_cons, h.mem]
    constructor
    · rintro (rfl | ⟨a, b, c⟩)
      · exact ⟨by omega, by omega, hk⟩
      · exact ⟨a, by omega, c⟩
    · rintro ⟨a, b, c⟩
      by_cases e : v = k
      · exact .inl e
      · exact .inr ⟨a, by omega, c⟩
theorem Ph.start {n : Nat} {l : List E} {D L : List Int} (h : Ph n n D L) (hl : D.length = n) (hc : ∀ v : Int, 0 ≤ v → v < n → dg D v = ((tdn l v : Nat) : Int)) : KI n l D L [] [] :=
  KI.start hl hc h.nd fun v => h.mem v
/-- how many edges lead to each, of the first k -/
structure Cn (n k : Nat) (l : List E) (D : List Int) : Prop where
  len : D.length = n
  at_ : ∀ v : Int, 0 ≤ v → v < n → dg D v = ((tdn (l.take k) v : Nat) : Int)
theorem Cn.zero (n : Nat) (l : List E) : Cn n 0 l (List.replicate n 0) := ⟨by simp, fun v v0 v1 => by
  unfold dg
  rw [List.getD_eq_getElem?_getD, List.getElem?_replicate]
  split <;> simp [tdn]⟩
theorem Cn.step {n k : Nat} {l : List E} {D : List Int} (h : Cn n k l D) (hk : k < l.length) (t : Nat) (ht : l[k].2.1 = t) (htn : t < n) : Cn n (k + 1) l (D.set t (dg D (t : Int) + 1)) := by
  refine ⟨by simp [h.len], fun v v0 v1 => ?_⟩
  have hs := dg_set (D := D) (t := (t : Int)) (v := v) (x := dg D (t : Int) + 1) (by omega) (by rw [h.len]; omega) v0
  rw [Int.toNat_natCast] at hs
  rw [hs, List.take_succ_eq_append_getElem hk, tdn_snoc, ht]
  by_cases e : v = (t : Int)
  · rw [if_pos e, if_pos e.symm, e, h.at_ _ (by omega) (by omega)]; omega
  · rw [if_neg e, if_neg (fun x => e x.symm), h.at_ v v0 v1]; rfl
theorem Cn.bd {n k : Nat} {l : List E} {D : List Int} (h : Cn n k l D) (hl : l.length ≤ 600) {v : Int} (v0 : 0 ≤ v) (v1 : v < n) : 0 ≤ dg D v ∧ dg D v ≤ 600 := by
  rw [h.at_ v v0 v1]
  have := tdn_le (l.take k) v
  have : (l.take k).length ≤ l.length := by rw [List.length_take]; omega
  omega
theorem KI.bd {N : Nat} {l todo : List E} {D L out : List Int} (h : KI N l D L out todo) (hl : l.length ≤ 600) (ht : todo.length ≤ 600) {v : Int} (v0 : 0 ≤ v) (v1 : v < N) : 0 ≤ dg D v ∧ dg D v ≤ 1200 := by
  rw [h.cnt v v0 v1]
  have h1 := tdn_le todo v
  have h2 : inn l out v ≤ l.length := List.countP_le_length
  omega
/-- what Order answers of a right net -/
def OrdSays (n : Nat) (l : List E) (w : World) (e : Ending) (w' : World) : Prop :=
  ((e = .returned (.tuple #[.slice none 0 0, .int .i64 6]) ∧ ∃ out, Stuck n l out) ∨ ∃ Ao co out, e = .returned (.tuple #[.slice Ao n co, .int .i64 0]) ∧ Own w' w.heap.size 3 1 ci (.slice Ao n co) out ∧ Topo n l out) ∧ Below w.heap.size w w'

set_option maxRecDepth 100000 in
set_option maxHeartbeats 8000000 in
theorem order_yes (n : Nat) (A : Option Addr) (c : Nat) (l : List E) (w : World) (hl : Sl w w.heap.size 3 ce A l) (hg : NetLaw.Good n l) :
    Calls Try.prog 24 #[.agg #[.int .i64 n, .slice A l.length c]] w fun e w' => OrdSays n l w e w' := by
  obtain ⟨i0, hi, hz0, hz1, hz2⟩ := info_parts infoI
  have hN := hg.hi
  have hlen := hg.len
  have hw0 : Below w.heap.size w (w.alloc (.cells #[.int .i64 n, .slice A l.length c] 24)) := (Below.refl _ _).alloc (Nat.le_refl _) _
  have key := check_any n A c l _ ((hl.keep hw0 (Nat.le_refl _)).more (show w.heap.size ≤ (w.alloc (.cells #[.int .i64 n, .slice A l.length c] 24)).heap.size by simp)) (by omega)
  rw [chk_zero.2 hg] at key
  have hmk : ∀ w, (Instr.makeSlice 25 (.int .i64 (n : Int)) (.int .i64 (n : Int))).run Try.prog w = .ok (.slice (some ⟨w.heap.size, 0, none⟩) n n) (w.alloc (.cells (madeCells #[.int .i64 0] n) 3)) :=
    run_make_row' (P := Try.prog) 25 3 (.int .i64 0) 8 Try.underlying25 (by kernel_rfl) rfl .i64 .i64 n (by omega) (by omega)
  have box0 := heap_alloc_new w (.cells #[.int .i64 n, .slice A l.length c] 24)
  have hends := hg.ends
  have KEY := Lib.hid key
  have BOX0 := Lib.hid box0
  have HG := Lib.hid hg
  have HE := Lib.hid hends
  have HSL0 := Lib.hid hl
  clear key box0 hg hends
  go_enter Try.func24, Try.ntmps24
  go_wp2_with fail
  refine KEY.out.mono ?_
  rintro e w1 ⟨rfl, hb1⟩
  have H1 := hw0.trans (hb1.mono (by simp))
  have hbox := blk_below BOX0.out hb1 (by simp)
  have q0 := blk_cell hbox 0
  have q1 := blk_cell hbox 1
  simp only [List.getElem?_toArray, List.getElem?_cons_zero, List.getElem?_cons_succ] at q0 q1
  have hz1' : w.heap.size < w1.heap.size := lt_of_block hbox
  have own0 := Grid.own_made n w.heap.size w1 (by omega) (by omega) rfl
  have hbox1 := blk_alloc hbox (.cells (madeCells #[.int .i64 0] n) 3)
  have HB1 := H1.alloc (by omega) (.cells (madeCells #[.int .i64 0] n) 3)
  have OWN0 := Lib.hid own0
  have HBOX1 := Lib.hid hbox1
  obtain ⟨S, hS⟩ : ∃ S, w1.heap.size = S := ⟨_, rfl⟩
  have HSS := Lib.hid hS
  clear own0 hbox hbox1 hb1 KEY hS
  go_wp2
  have hS := HSS.out
  rw [hS] at OWN0 ⊢
  clear hS
  go_loopw [28] (fun i wr => ∃ (k : Nat) (D : List Int), k ≤ l.length ∧ i = .int .i64 k ∧ Own wr w.heap.size 3 1 ci (.slice (some ⟨S, 0, none⟩) n n) D ∧ Hid (Cn n k l D) ∧ wr.heap[w.heap.size]? = some (.cells #[.int .i64 n, .slice A l.length c] 24 (0, 0)) ∧ Below w.heap.size w wr) (fun i _ => l.length - (intOf i).toNat)
  case atStart => exact ⟨0, _, Nat.zero_le _, rfl, OWN0.out, Lib.hid (Cn.zero n l), HBOX1.out, HB1⟩
  case round =>
    clear OWN0 HBOX1 HB1 q0 q1
    obtain ⟨k, D, hk, rfl, own, hcn, hbox, hB⟩ := hrel
    by_cases hlt : k < l.length
    · obtain ⟨b, off, f, t, co, rfl, hbB, he, hcf, hct, hcc⟩ := (hl.keep hB (Nat.le_refl _)).atE hlt
      have hen := HE.out _ (List.getElem_mem hlt)
      rw [he] at hen
      obtain ⟨_, _, t0, t1⟩ := hen
      simp only at t0 t1
      obtain ⟨t, rfl⟩ := Int.eq_ofNat_of_zero_le t0
      have htn : t < n := by omega
      have hst := hcn.out.step hlt t (by rw [he]) htn
      obtain ⟨dc, df⟩ := own_at1 hcn.out.len own htn
      have hbd := hcn.out.bd hlen (v := (t : Int)) (by omega) (by omega)
      rw [show D.getD t 0 = dg D (t : Int) by rw [dg, Int.toNat_natCast]] at dc
      have own2 := (HeapDag.own_set1 hcn.out.len own t htn (dg D (t : Int) + 1)).alloc (.cells #[.int .i64 f, .int .i64 t, .int .i64 co] 30)
      have hSs := own.base_ S rfl
      have hbx2 : w.heap.size ≠ S := fun e => own.ne_ (e ▸ hbox) (by decide) rfl
      have hbox2 := blk_alloc (blk_far hbox (p := ⟨S, t, none⟩) hbx2 (.int .i64 (dg D (t : Int) + 1))) (.cells #[.int .i64 f, .int .i64 t, .int .i64 co] 30)
      have hB2 := (hB.setCell (p := ⟨S, t, none⟩) hSs.1 (.int .i64 (dg D (t : Int) + 1))).alloc (by have := hB.size; simpa [World.setCell] using this) (.cells #[.int .i64 f, .int .i64 t, .int .i64 co] 30)
      have OWN2 := Lib.hid own2
      have HBOX2 := Lib.hid hbox2
      have HST := Lib.hid hst
      have hSw : S < wr.heap.size := hSs.2
      have hbw : b < wr.heap.size := by have := hB.size; omega
      obtain ⟨hd0, hd1⟩ := hbd
      generalize dg D (t : Int) = x at *
      clear own hbox hst own2 hbox2 he t0 hcn hl
      go_wp2
      go_roundw
      case rel => exact ⟨k + 1, _, by omega, by go_num, OWN2.out, HST, HBOX2.out, hB2⟩
      case measure => simp [intOf]; omega
    · obtain rfl : k = l.length := by omega
      have hcn' := hcn.out
      rw [show Cn n l.length l D = Cn n l.length l D from rfl] at hcn'
      have hat := hcn'.at_
      rw [List.take_length] at hat
      have hdl := hcn'.len
      have HAT := Lib.hid hat
      have HDL := Lib.hid hdl
      have knew := HeapDag.new_i wr
      have KNEW := Lib.hid knew
      have OWN := Lib.hid own
      have HBOX := Lib.hid hbox
      clear hat hdl knew own hbox hcn hcn' hlt hl
      go_wp2_with fail
      refine KNEW.out.mono ?_
      rintro e w2 ⟨H, rfl, hh2, hb2⟩
      have mm2 : Mm w w2 n A c l S H none 0 0 [] D := ⟨blk_below HBOX.out hb2 (lt_of_block HBOX.out), OWN.out.keep hb2, HDL.out, ⟨Nat.le_trans hB.size hh2.hb, hh2.blk, hh2.own.mono hB.size, hh2.len⟩, (fun e => by cases e), hB.trans (hb2.mono hB.size)⟩
      have MM2 := Lib.hid mm2
      clear mm2 hh2 hb2 OWN HBOX hB
      go_wp2
      go_loopw [43] (fun i wy => ∃ (k : Nat) (Ah : Option Addr) (m ch : Nat) (L : List Int), k ≤ n ∧ i = .int .i64 k ∧ Mm w wy n A c l S H Ah m ch L D ∧ Hp 0 ltI L ∧ Ph n k D L ∧ m ≤ k) (fun i _ => n - (intOf i).toNat)
      case atStart => exact ⟨0, none, 0, 0, [], Nat.zero_le _, rfl, MM2.out, Hp.nil, Ph.zero n D, Nat.le_refl _⟩
      case round =>
        clear MM2
        obtain ⟨k, Ah, m, ch, L, hk, rfl, hmm, hhp, hph, hmk⟩ := hrel
        by_cases hlt : k < n
        · obtain ⟨dc, df⟩ := own_at1 hmm.dlen hmm.ahead hlt
          rw [show D.getD k 0 = dg D (k : Int) by rw [dg, Int.toNat_natCast]] at dc
          have HMM := Lib.hid hmm
          have HPH := Lib.hid hph
          have HHP := Lib.hid hhp
          by_cases hz : dg D (k : Int) = 0
          · have kpush := push_i w.heap.size H Ah m ch L k wr hmm.heap hhp (by omega) hmm.lo.size
            have HZ := Lib.hid hz
            rw [hz] at dc
            have KPUSH := Lib.hid kpush
            clear kpush hz hmm hph hhp
            go_wp2_with fail
            refine KPUSH.out.mono ?_
            rintro e w3 ⟨⟨v, rfl⟩, A3, c3, L3, hh3, hpm3, hhp3, hkp3, hat3⟩
            have mm3 := HMM.out.kp hkp3 hh3 (fun g hg => by have := hat3 g ((obs' ..).trans hg); rwa [ob_eq] at this)
            have MM3 := Lib.hid mm3
            have ph3 := Lib.hid (HPH.out.yes HZ.out hpm3)
            clear mm3 hh3 hkp3 hat3 hpm3 dc df
            go_wp2
            go_roundw
            case rel => exact ⟨k + 1, A3, m + 1, c3, L3, by omega, by go_num, MM3.out, hhp3, ph3.out, by omega⟩
            case measure => simp [intOf]; omega
          · have hne : (dg D (k : Int) == 0) = false := by rw [beq_eq_false_iff_ne]; exact hz
            have ph3 := Lib.hid (HPH.out.no hz)
            generalize dg D (k : Int) = x at *
            clear hz hmm hph hhp
            go_wp2
            go_roundw
            case rel => exact ⟨k + 1, Ah, m, ch, L, by omega, by go_num, HMM.out, HHP.out, ph3.out, by omega⟩
            case measure => simp [intOf]; omega
        · obtain rfl : n = k := by omega
          have hki := hph.start HDL.out HAT.out
          have ko := outs_any n A c l wr ((HSL0.out.keep hmm.lo (Nat.le_refl _)).more hmm.lo.size) HG.out
          have r0 := blk_cell hmm.box 0
          have r1 := blk_cell hmm.box 1
          simp only [List.getElem?_toArray, List.getElem?_cons_zero, List.getElem?_cons_succ] at r0 r1
          have HMM := Lib.hid hmm
          have HHP := Lib.hid hhp
          have HKI := Lib.hid hki
          have KO := Lib.hid ko
          clear hki ko hmm hph hhp hlt
          go_wp2_with fail
          refine KO.out.mono ?_
          rintro e w3 ⟨T, F, rfl, htab, hb3⟩
          have hm0 := HMM.out
          have mo3 : Mo w w3 n A c l S T H F Ah m ch L D none 0 0 [] := by
            refine ⟨hm0.keep hb3, Dijk.Tab_mono htab hm0.lo.size, fun v hv e => ?_, fun v hv g hg e => ?_, Own.nil_, rfl, (fun e => by cases e), (fun g e => by cases e), (fun v hv g _ e => by cases e)⟩
            · have := ((htab.own v hv).base_ S ((obs' ..).trans e)).1
              have := hm0.aheadS.1; omega
            · have := ((htab.own v hv).base_ g ((obs' ..).trans hg)).1
              have := (hm0.heap.own.base_ g ((obs' ..).trans e)).2; omega
          have MO3 := Lib.hid mo3
          clear mo3 htab hb3 hm0 HMM r0 r1
          go_wp2
          go_loopg [12] n (fun g s12 wz => ∃ (Ah : Option Addr) (m ch : Nat) (L D : List Int) (Ao : Option Addr) (mo co : Nat) (out : List Int), s12 = .slice Ao mo co ∧ Mo w wz n A c l S T H F Ah m ch L D Ao mo co out ∧ Hp 0 ltI L ∧ Hid (KI n l D L out []) ∧ n - mo ≤ g ∧ g ≤ n)
          case atStart => exact ⟨Ah, m, ch, L, D, none, 0, 0, [], rfl, MO3.out, HHP.out, HKI, by omega, Nat.le_refl _⟩
          case round =>
            clear MO3 HHP HKI HDL HAT
            obtain ⟨Ah, m, ch, L, D, Ao, mo, co, out, rfl, hmo, hhp, hki, hgh, hgb⟩ := hrel
            have hmm := hmo.mm
            have klen := len_i wr hmm.heap
            have hLm := hmm.heap.len
            have r0 := blk_cell hmm.box 0
            have r1 := blk_cell hmm.box 1
            simp only [List.getElem?_toArray, List.getElem?_cons_zero, List.getElem?_cons_succ] at r0 r1
            by_cases hm0 : m = 0
            · subst hm0
              have hL : L = [] := List.eq_nil_of_length_eq_zero hLm
              subst hL
              have KLEN := Lib.hid klen
              have HMO := Lib.hid hmo
              clear klen hmo hmm hLm hgh
              go_wp2_with fail
              refine KLEN.out.mono ?_
              rintro e w5 ⟨rfl, rfl⟩
              by_cases hlt : mo < n
              · have hd : decide ((mo : Int) < n) = true := decide_eq_true (by omega)
                have hlt2 : (mo : Int) < n := by omega
                have HST := Lib.hid (hki.out.stuck (by rw [HMO.out.olen]; exact hlt))
                clear hki
                go_wp2
                go_ret2
                exact ⟨.inl ⟨rfl, _, HST.out⟩, HMO.out.mm.lo⟩
              · have hfin := hki.out.fin (by rw [HMO.out.olen]; exact hlt)
                have hmn : mo = n := by have := hfin.len; rw [HMO.out.olen] at this; exact this
                have HFIN := Lib.hid hfin
                have HOW := Lib.hid HMO.out.ow
                subst hmn
                clear hfin hki hlt
                go_wp2
                go_ret2
                exact ⟨.inr ⟨Ao, co, out, rfl, HOW.out, HFIN.out⟩, HMO.out.mm.lo⟩
            · obtain ⟨m, rfl⟩ : ∃ k, m = k + 1 := ⟨m - 1, by omega⟩
              have hle := hki.out.len_le
              rw [hLm, hmo.olen] at hle
              have kpop := pop_i w.heap.size H Ah m ch L wr hmm.heap hhp (by omega) hmm.lo.size
              have KLEN := Lib.hid klen
              have KPOP := Lib.hid kpop
              have HMO := Lib.hid hmo
              clear klen kpop hmo hmm hLm hm0 r0 r1 hhp
              go_wp2_with fail
              refine KLEN.out.mono ?_
              rintro e w5 ⟨rfl, rfl⟩
              go_wp2_with fail
              refine KPOP.out.mono ?_
              rintro e w6 ⟨p, L5, rfl, hg0, hh5, hpm5, hhp5, hkp⟩
              have mo6 := HMO.out.kp hkp hh5 (fun g hg => .inl hg)
              obtain ⟨htake, p0, p1⟩ := hki.out.take hpm5
              obtain ⟨q, rfl⟩ := Int.eq_ofNat_of_zero_le p0
              have hqn : q < n := by omega
              rw [← td_filter] at htake
              have HTAKE := Lib.hid htake
              have MO6 := Lib.hid mo6
              have HHP5 := Lib.hid hhp5
              have hown := mo6.ow
              have hown1 := hown.alloc (.cells #[.int .i64 q] 3)
              have hmo1 : mo + 1 ≤ n := by omega
              have hz6 := mo6.mm.lo.size
              have OLEN := Lib.hid mo6.olen
              obtain ⟨K, hK⟩ : ∃ K, (ol l l.length q).length = K := ⟨_, rfl⟩
              obtain ⟨Aq, hAq⟩ : ∃ Aq, (F q).1 = Aq := ⟨_, rfl⟩
              obtain ⟨cq, hcq⟩ : ∃ cq, (F q).2 = cq := ⟨_, rfl⟩
              have hrow : ∀ wx (Ax : Option Addr) (mx cx : Nat) (Lx Dx : List Int) (Ay : Option Addr) (my cy : Nat) (oy : List Int), Mo w wx n A c l S T H F Ax mx cx Lx Dx Ay my cy oy → Own wx w.heap.size 3 1 ci (.slice Aq K cq) (ol l l.length q) := fun wx Ax mx cx Lx Dx Ay my cy oy hx => by
                have := hx.tab.own q hqn
                rw [hK, hAq, hcq] at this
                exact this
              have hK6 : K ≤ 600 := by have := ol_len l l.length q; omega
              have HROW := Lib.hid hrow
              have HKK := Lib.hid hK
              have HAQ := Lib.hid hAq
              have HCQ := Lib.hid hcq
              clear hrow hK hAq hcq
              clear htake mo6 hhp5 hg0 hh5 hpm5 hkp hki HMO p0 hown
              go_wp2_with (at_builtin; refine wpList_push _ rfl (.tmp 61) (.tmp 63) _ rfl w.heap.size 3 i0 (.int .i64 0) 1 8 ci Try.underlying25 hi hz0 hz1 hz2 rfl (by decide) _ out mo OLEN.out rfl hown1 w6.heap.size 1 (q : Int) rfl news1 (fun _ _ => one_ci _ _) (by omega) (by omega) (by simp; omega) ?_; intro A7 c7 w7 hown7 hgrow7 hat7; have mo7 := (MO6.out.alloc _).grow hgrow7 hown7 (by simp [OLEN.out]) (by rcases hat7 with h1 | h1; exact .inl ((ob_eq A7 (mo + 1) c7).symm.trans (h1.trans (ob_eq Ao mo co))); exact .inr ⟨_, (ob_eq ..).symm.trans h1, by simp⟩); obtain ⟨tc, _⟩ := mo7.tab.cell hqn; rw [HKK.out, HAQ.out, HCQ.out] at tc; have MO7 := Lib.hid mo7; have hTl := mo7.tab.lt; clear hown7 hgrow7 hat7 mo7)
              go_loopw [70] (fun i wy => ∃ (j : Nat) (A6 : Option Addr) (m6 c6 : Nat) (L6 D6 : List Int), j ≤ K ∧ i = .int .i64 j ∧ Mo w wy n A c l S T H F A6 m6 c6 L6 D6 A7 (mo + 1) c7 (out ++ [(q : Int)]) ∧ Hp 0 ltI L6 ∧ Hid (KI n l D6 L6 (out ++ [(q : Int)]) (Dijk.td l ((ol l l.length q).drop j)))) (fun i _ => K - (intOf i).toNat)
              case atStart => exact ⟨0, Ah, m, ch, L5, D, Nat.zero_le _, rfl, MO7.out, HHP5.out, HTAKE⟩
              case round =>
                clear MO7 HHP5 HTAKE tc
                obtain ⟨j, A6, m6, c6, L6, D6, hj, rfl, hmo6, hhp6, hki6⟩ := hrel
                by_cases hjk : j < K
                · have hjl : j < (ol l l.length q).length := by rw [HKK.out]; exact hjk
                  obtain ⟨bq, offq, rfl, hbq, hcj⟩ := (HROW.out _ _ _ _ _ _ _ _ _ _ hmo6).sl.2.atI hjl
                  obtain ⟨i, hi', hil, hiq⟩ := Dijk.ol_mem (List.getElem_mem hjl)
                  rw [hi'] at hcj
                  obtain ⟨b, off, f, t, co, rfl, hbB, he, hcf, hct, hcc⟩ := (HSL0.out.keep hmo6.mm.lo (Nat.le_refl _)).atE hil
                  have hen := HE.out _ (List.getElem_mem hil)
                  have hlg : l.getD i (0, 0, 0) = l[i] := by rw [List.getD_eq_getElem?_getD, List.getElem?_eq_getElem hil]; rfl
                  have htd : Dijk.td l ((ol l l.length q).drop j) = l[i] :: Dijk.td l ((ol l l.length q).drop (j + 1)) := by
                    rw [List.drop_eq_getElem_cons hjl, Dijk.td, List.map_cons, hi', Int.toNat_natCast, hlg]; rfl
                  rw [he] at hen htd
                  obtain ⟨_, _, t0, t1⟩ := hen
                  simp only at t0 t1
                  obtain ⟨t, rfl⟩ := Int.eq_ofNat_of_zero_le t0
                  have htn : t < n := by omega
                  have hki' := hki6.out
                  rw [htd] at hki'
                  obtain ⟨hx1, hdz, hdn⟩ := hki'.dec t0 t1
                  simp only [Int.toNat_natCast] at hx1 hdz hdn
                  have hbd := KI.bd hki' hlen (by rw [← htd, Dijk.td, List.length_map, List.length_drop, HKK.out]; omega) (v := (t : Int)) t0 t1
                  obtain ⟨dc, df⟩ := own_at1 hmo6.mm.dlen hmo6.mm.ahead htn
                  rw [show D6.getD t 0 = dg D6 (t : Int) by rw [dg, Int.toNat_natCast]] at dc
                  have x0 := blk_cell hmo6.mm.box 0
                  have x1 := blk_cell hmo6.mm.box 1
                  simp only [List.getElem?_toArray, List.getElem?_cons_zero, List.getElem?_cons_succ] at x0 x1
                  have hSs := hmo6.mm.aheadS.1
                  have hl6 := hki'.len_le
                  rw [hmo6.mm.heap.len] at hl6
                  have z4 : (j : Int) < (K : Int) := by omega
                  have z5 : (i : Int) < (l.length : Int) := by omega
                  have HMO6 := Lib.hid hmo6
                  have HDZ := Lib.hid hdz
                  have HDN := Lib.hid hdn
                  clear hmo6 hdz hdn hki' hki6 htd hlg hi' hjl hiq he t0
                  obtain ⟨hb0', hb1'⟩ := hbd
                  by_cases hz : dg D6 (t : Int) - 1 = 0
                  · have hxe : dg D6 (t : Int) = 1 := by omega
                    have mo8 := HMO6.out.set t htn 0
                    have kpush := push_i w.heap.size H A6 m6 c6 L6 t _ mo8.mm.heap hhp6 (by omega) mo8.mm.lo.size
                    have hdz := HDZ.out hz
                    rw [hz] at hdz
                    rw [hxe] at dc
                    have KPUSH := Lib.hid kpush
                    have MO8 := Lib.hid mo8
                    have HDZ2 := Lib.hid hdz
                    clear kpush mo8 hdz HDZ HDN hz hxe hx1 hb0' hb1' hl6
                    go_wp2_with fail
                    refine KPUSH.out.mono ?_
                    rintro e w8 ⟨⟨v, rfl⟩, A8, c8, L8, hh8, hpm8, hhp8, hkp8, hat8⟩
                    have mo9 := MO8.out.kp hkp8 hh8 (fun g hg => by have := hat8 g ((obs' ..).trans hg); rwa [ob_eq] at this)
                    have ki9 := Lib.hid (HDZ2.out L8 hpm8)
                    have MO9 := Lib.hid mo9
                    clear mo9 hh8 hpm8 hkp8 hat8 dc df x0 x1
                    go_wp2
                    go_roundw
                    case rel => exact ⟨j + 1, A8, m6 + 1, c8, L8, _, by omega, by go_num, MO9.out, hhp8, ki9⟩
                    case measure => simp [intOf]; omega
                  · have hd : (dg D6 (t : Int) - 1 == 0) = false := by rw [beq_eq_false_iff_ne]; exact hz
                    have mo8 := Lib.hid (HMO6.out.set t htn (dg D6 (t : Int) - 1))
                    have ki9 := Lib.hid (HDN.out hz)
                    generalize dg D6 (t : Int) = x at *
                    clear HDZ HDN hz hl6
                    go_wp2
                    go_roundw
                    case rel => exact ⟨j + 1, A6, m6, c6, L6, _, by omega, by go_num, mo8.out, hhp6, ki9⟩
                    case measure => simp [intOf]; omega
                · obtain rfl : j = K := by omega
                  have hki' := hki6.out
                  rw [List.drop_eq_nil_of_le (by rw [HKK.out]; exact Nat.le_refl _)] at hki'
                  have HKI' := Lib.hid hki'
                  have HMO6 := Lib.hid hmo6
                  clear hki' hki6 hmo6
                  go_wp2
                  go_roundg (n - (mo + 1))
                  case measure => omega
                  case rel => exact ⟨A6, m6, c6, L6, D6, A7, mo + 1, c7, _, rfl, HMO6.out, hhp6, HKI', Nat.le_refl _, by omega⟩

set_option maxHeartbeats 1000000 in
theorem order_no (N : Int) (A : Option Addr) (c : Nat) (l : List E) (w : World) (hl : Sl w w.heap.size 3 ce A l) (hlen : l.length ≤ 9223372036854775807) (hg : chk N l ≠ 0) :
    Calls Try.prog 24 #[.agg #[.int .i64 N, .slice A l.length c]] w fun e w' => e = .returned (.tuple #[.slice none 0 0, .int .i64 (chk N l)]) ∧ Below w.heap.size w w' := by
  have hw0 : Below w.heap.size w (w.alloc (.cells #[.int .i64 N, .slice A l.length c] 24)) := (Below.refl _ _).alloc (Nat.le_refl _) _
  have key := check_any N A c l _ ((hl.keep hw0 (Nat.le_refl _)).more (show w.heap.size ≤ (w.alloc (.cells #[.int .i64 N, .slice A l.length c] 24)).heap.size by simp)) hlen
  have hne : (chk N l != 0) = true := by rw [bne_iff_ne]; exact hg
  generalize chk N l = er at *
  have KEY := Lib.hid key
  clear key hl hg
  go_enter Try.func24, Try.ntmps24
  go_wp2_with fail
  refine KEY.out.mono ?_
  rintro e w1 ⟨rfl, hb1⟩
  have H1 := hw0.trans (hb1.mono (by simp))
  go_wp2
  go_ret2
  exact ⟨rfl, H1⟩
end Go.Proofs.Ytjhnlkmdkjlkdaa.Dag
