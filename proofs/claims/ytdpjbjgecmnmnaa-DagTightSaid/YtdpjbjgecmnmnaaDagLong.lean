/- The walk of dag.Long. -/
import Derived.Test.YtdpjbjgecmnmnaaDagOrder
import Derived.StillTailTactics
namespace Go.Proofs.Ytdpjbjgecmnmnaa.Dag
open Go.RowKit Go.Proofs.Ytdpjbjgecmnmnaa NetLaw BellLaw HeapLaw DagLaw Go.Proofs.Ytdpjbjgecmnmnaa.Net Go.Proofs.Ytdpjbjgecmnmnaa.Heap Go.Proofs.Ytdpjbjgecmnmnaa.HeapDag Go.Proofs.Ytdpjbjgecmnmnaa.Std
set_option linter.unusedSimpArgs false
set_option linter.unusedVariables false
/-- the memory of Long -/
structure Lm (w0 w : World) (n : Nat) (A : Option Addr) (c : Nat) (l : List E) (S T : Nat) (F : Nat → Option Addr × Nat) (Ao : Option Addr) (co : Nat) (out D : List Int) : Prop where
  box : w.heap[w0.heap.size]? = some (.cells #[.int .i64 n, .slice A l.length c] 24 (0, 0))
  tab : Tab w w0.heap.size T n F (ol l l.length)
  dist : Own w w0.heap.size 3 1 ci (.slice (some ⟨S, 0, none⟩) n n) D
  dlen : D.length = n
  st : ∀ v, v < n → ob (F v).1 ≠ some S
  ow : Own w w0.heap.size 3 1 ci (.slice Ao n co) out
  so : ob Ao ≠ some S
  lo : Below w0.heap.size w0 w
section
variable {w0 w w' : World} {n c S T co : Nat} {A Ao : Option Addr} {F : Nat → Option Addr × Nat} {l : List E} {D out : List Int}
theorem Lm.alloc (h : Lm w0 w n A c l S T F Ao co out D) (o : Obj) : Lm w0 (w.alloc o) n A c l S T F Ao co out D :=
  ⟨blk_alloc h.box o, h.tab.alloc o, h.dist.alloc o, h.dlen, h.st, h.ow.alloc o, h.so, h.lo.alloc h.lo.size o⟩
theorem Lm.drew (h : Lm w0 w n A c l S T F Ao co out D) : Lm w0 w.drew n A c l S T F Ao co out D :=
  ⟨h.box, h.tab.drew, h.dist.drewN 1, h.dlen, h.st, h.ow.drewN 1, h.so, below_drewN h.lo 1⟩
theorem Lm.set (h : Lm w0 w n A c l S T F Ao co out D) (t : Nat) (ht : t < n) (x : Int) : Lm w0 (w.setCell ⟨S, t, none⟩ (.int .i64 x)) n A c l S T F Ao co out (D.set t x) := by
  obtain ⟨cs, hb, hs, hc⟩ := h.tab.blk
  have hbx : w0.heap.size ≠ S := fun e => h.dist.ne_ (e ▸ h.box) (by decide) rfl
  have hT : T ≠ S := fun e => h.dist.ne_ (e ▸ hb) (by decide) rfl
  exact ⟨blk_far h.box hbx _, ⟨h.tab.lo, ⟨cs, blk_far hb hT _, hs, hc⟩, fun v hv => (h.tab.own v hv).setCell (fun e => h.st v hv ((ob_eq ..).symm.trans e)) _, h.tab.sep⟩, HeapDag.own_set1 h.dlen h.dist t ht x, by simp [h.dlen], h.st, h.ow.setCell (fun e => h.so ((ob_eq ..).symm.trans e)) _, h.so, h.lo.setCell (h.dist.base_ S rfl).1 _⟩
end
/-- what Long answers of a right net -/
def LongSays (n : Nat) (l : List E) (w : World) (e : Ending) (w' : World) : Prop :=
  ((e = .returned (.tuple #[.slice none 0 0, .int .i64 6]) ∧ ∃ out, Stuck n l out) ∨ ∃ S D, e = .returned (.tuple #[.slice (some ⟨S, 0, none⟩) n n, .int .i64 0]) ∧ Own w' w.heap.size 3 1 ci (.slice (some ⟨S, 0, none⟩) n n) D ∧ ∃ out, Topo n l out ∧ LB n l out D) ∧ Below w.heap.size w w'

set_option maxRecDepth 100000 in
set_option maxHeartbeats 8000000 in
theorem long_yes (n : Nat) (A : Option Addr) (c : Nat) (l : List E) (w : World) (hl : Sl w w.heap.size 3 ce A l) (hg : NetLaw.Good n l) :
    Calls Try.prog 39 #[.agg #[.int .i64 n, .slice A l.length c]] w fun e w' => LongSays n l w e w' := by
  have hN := hg.hi
  have hlen := hg.len
  have hw0 : Below w.heap.size w (w.alloc (.cells #[.int .i64 n, .slice A l.length c] 24)) := (Below.refl _ _).alloc (Nat.le_refl _) _
  have key := order_yes n A c l _ ((hl.keep hw0 (Nat.le_refl _)).more (show w.heap.size ≤ (w.alloc (.cells #[.int .i64 n, .slice A l.length c] 24)).heap.size by simp)) hg
  have hmk : ∀ w, (Instr.makeSlice 25 (.int .i64 (n : Int)) (.int .i64 (n : Int))).run Try.prog w = .ok (.slice (some ⟨w.heap.size, 0, none⟩) n n) (w.alloc (.cells (madeCells #[.int .i64 0] n) 3)) :=
    run_make_row' (P := Try.prog) 25 3 (.int .i64 0) 8 Try.underlying25 (by kernel_rfl) rfl .i64 .i64 n (by omega) (by omega)
  have box0 := heap_alloc_new w (.cells #[.int .i64 n, .slice A l.length c] 24)
  have hends := hg.ends
  have hcost := hg.cost
  have ko := fun W h => outs_any n A c l W h hg
  have KEY := Lib.hid key
  have BOX0 := Lib.hid box0
  have HE := Lib.hid hends
  have HC := Lib.hid hcost
  have KO := Lib.hid ko
  have HSL0 := Lib.hid hl
  clear key box0 hg hends hcost ko hl
  go_enter Try.func39, Try.ntmps39
  go_wp2_with fail
  refine KEY.out.mono ?_
  rintro e w1 ⟨hor, hb1⟩
  have H1 := hw0.trans (hb1.mono (by simp))
  have hbox := blk_below BOX0.out hb1 (by simp)
  have q0 := blk_cell hbox 0
  have q1 := blk_cell hbox 1
  simp only [List.getElem?_toArray, List.getElem?_cons_zero, List.getElem?_cons_succ] at q0 q1
  have hz1' : w.heap.size < w1.heap.size := lt_of_block hbox
  rcases hor with ⟨rfl, out, hst⟩ | ⟨Ao, co, out, rfl, ow1, htop⟩
  · have HST := Lib.hid hst
    clear hb1 hbox hst KEY q0 q1
    go_wp2
    go_ret2
    exact ⟨.inl ⟨rfl, out, HST.out⟩, H1⟩
  · have HBOX := Lib.hid hbox
    have OW1 := Lib.hid (ow1.mono (show w.heap.size ≤ _ by simp))
    have HTOP := Lib.hid htop
    clear hb1 hbox ow1 htop KEY
    go_wp2_with fail
    refine (KO.out _ ((HSL0.out.keep H1 (Nat.le_refl _)).more H1.size)).mono ?_
    rintro e w2 ⟨T, F, rfl, htab, hb2⟩
    have H2 := H1.trans (hb2.mono H1.size)
    have hbox2 := blk_below HBOX.out hb2 (lt_of_block HBOX.out)
    have own0 := Grid.own_made n w.heap.size w2 H2.size (by omega) rfl
    have lm2 : Lm w (w2.alloc (.cells (madeCells #[.int .i64 0] n) 3)) n A c l w2.heap.size T F Ao co out (List.replicate n 0) :=
      ⟨blk_alloc hbox2 _, (Dijk.Tab_mono htab H1.size).alloc _, own0, by simp, fun v hv e => Nat.lt_irrefl _ ((htab.own v hv).base_ _ ((obs' ..).trans e)).2, (OW1.out.keep hb2).alloc _, fun e => Nat.lt_irrefl _ ((OW1.out.keep hb2).base_ _ ((obs' ..).trans e)).2, H2.alloc H2.size _⟩
    have r0 := blk_cell hbox2 0
    have r1 := blk_cell hbox2 1
    simp only [List.getElem?_toArray, List.getElem?_cons_zero, List.getElem?_cons_succ] at r0 r1
    have LM2 := Lib.hid lm2
    clear q0 q1 htab hbox2 own0 lm2 hb2 OW1
    go_wp2
    generalize w2.heap.size = S at LM2 ⊢
    generalize w2.alloc (.cells (madeCells #[.int .i64 0] n) 3) = w3 at LM2 ⊢
    go_loopw [28] (fun s wr => ∃ (i : Nat) (D : List Int), i ≤ n ∧ s = .int .i64 i ∧ Lm w wr n A c l S T F Ao co out D ∧ Hid (LB n l (out.take i) D)) (fun s _ => n - (intOf s).toNat)
    case atStart => exact ⟨0, _, Nat.zero_le _, rfl, LM2.out, Lib.hid (by rw [List.take_zero]; exact LB.start l)⟩
    case round =>
      clear LM2 r0 r1
      obtain ⟨i, D, hi, rfl, hlm, hlb⟩ := hrel
      by_cases hlt : i < n
      · have htl := HTOP.out.len
        have hio : i < out.length := by omega
        obtain ⟨bo, oo, rfl, hbo, hc⟩ := hlm.ow.sl.2.atI hio
        obtain ⟨r0, r1⟩ := HTOP.out.rng _ (List.getElem_mem hio)
        obtain ⟨q, hq⟩ := Int.eq_ofNat_of_zero_le r0
        have hqn : q < n := by omega
        have htk : out.take (i + 1) = out.take i ++ [(q : Int)] := by rw [List.take_succ_eq_append_getElem hio, hq]
        have hnext := fun (e : E) he hv => HTOP.out.next hio (e := e) he hv
        rw [hq] at hc hnext
        have hli := hlb.out.go (todo := Dijk.td l (ol l l.length q)) (v := (q : Int)) (by omega) (by omega) Dijk.td_all
        obtain ⟨tc, _⟩ := hlm.tab.cell hqn
        obtain ⟨K, hK⟩ : ∃ K, (ol l l.length q).length = K := ⟨_, rfl⟩
        obtain ⟨Aq, hAq⟩ : ∃ Aq, (F q).1 = Aq := ⟨_, rfl⟩
        obtain ⟨cq, hcq⟩ : ∃ cq, (F q).2 = cq := ⟨_, rfl⟩
        have hrow : ∀ wx (Dx : List Int), Lm w wx n A c l S T F (some ⟨bo, oo, none⟩) co out Dx → Own wx w.heap.size 3 1 ci (.slice Aq K cq) (ol l l.length q) := fun wx Dx hx => by
          have := hx.tab.own q hqn
          rw [hK, hAq, hcq] at this
          exact this
        rw [hK, hAq, hcq] at tc
        have hK6 : K ≤ 600 := by have := ol_len l l.length q; omega
        have hTl := hlm.tab.lt
        have htkl : (out.take i).length = i := by rw [List.length_take]; omega
        have HLI := Lib.hid hli
        have HLM := Lib.hid hlm
        have HROW := Lib.hid hrow
        have HKK := Lib.hid hK
        have HTK := Lib.hid htk
        have HNX := Lib.hid hnext
        have HTKL := Lib.hid htkl
        clear hli hlm hlb hrow hK hAq hcq htk hnext htl hq r0 r1 htkl
        go_wp2
        go_loopw [37] (fun s wy => ∃ (j : Nat) (D : List Int), j ≤ K ∧ s = .int .i64 j ∧ Lm w wy n A c l S T F (some ⟨bo, oo, none⟩) co out D ∧ Hid (LI n l (out.take i) q D (Dijk.td l ((ol l l.length q).drop j)))) (fun s _ => K - (intOf s).toNat)
        case atStart => exact ⟨0, D, Nat.zero_le _, rfl, HLM.out, HLI⟩
        case round =>
          clear HLM HLI tc hc
          obtain ⟨j, D, hj, rfl, hlm, hli⟩ := hrel
          by_cases hjk : j < K
          · have hjl : j < (ol l l.length q).length := by rw [HKK.out]; exact hjk
            obtain ⟨bq, offq, rfl, hbq, hcj⟩ := (HROW.out _ _ hlm).sl.2.atI hjl
            obtain ⟨x, hx', hil, hiq⟩ := Dijk.ol_mem (List.getElem_mem hjl)
            rw [hx'] at hcj
            obtain ⟨b, off, f, t, co', rfl, hbB, he, hcf, hct, hcc⟩ := (HSL0.out.keep hlm.lo (Nat.le_refl _)).atE hil
            have hen := HE.out _ (List.getElem_mem hil)
            have hco := HC.out _ (List.getElem_mem hil)
            have hel := List.getElem_mem hil
            have hlg : l.getD x (0, 0, 0) = l[x] := by rw [List.getD_eq_getElem?_getD, List.getElem?_eq_getElem hil]; rfl
            have htd : Dijk.td l ((ol l l.length q).drop j) = l[x] :: Dijk.td l ((ol l l.length q).drop (j + 1)) := by
              rw [List.drop_eq_getElem_cons hjl, Dijk.td, List.map_cons, hx', Int.toNat_natCast, hlg]; rfl
            rw [hlg] at hiq
            rw [he] at hen htd hco hel hiq
            obtain ⟨_, _, t0, t1⟩ := hen
            simp only at t0 t1 hco hiq
            obtain ⟨t, rfl⟩ := Int.eq_ofNat_of_zero_le t0
            have htn : t < n := by omega
            have hli' := hli.out
            rw [htd] at hli'
            obtain ⟨n1, n2⟩ := HNX.out _ hel hiq
            have hst := hli'.step HE.out hel hiq n1 n2 hco.2
            simp only [Int.toNat_natCast] at hst
            have b1 := hli'.lo (t : Int) (by omega) (by omega)
            have b2 := hli'.lo (q : Int) (by omega) (by omega)
            rw [HTKL.out] at b1 b2
            obtain ⟨dc, df⟩ := own_at1 hlm.dlen hlm.dist htn
            obtain ⟨ec, _⟩ := own_at1 hlm.dlen hlm.dist hqn
            rw [show D.getD t 0 = dg D (t : Int) by rw [dg, Int.toNat_natCast]] at dc
            rw [show D.getD q 0 = dg D (q : Int) by rw [dg, Int.toNat_natCast]] at ec
            have x0 := blk_cell hlm.box 0
            have x1 := blk_cell hlm.box 1
            simp only [List.getElem?_toArray, List.getElem?_cons_zero, List.getElem?_cons_succ] at x0 x1
            have hSs := (hlm.dist.base_ S rfl).2
            have hbw : b < wr.heap.size := by have := hlm.lo.size; omega
            have hzw : w.heap.size < wr.heap.size := lt_of_block hlm.box
            have z4 : (j : Int) < (K : Int) := by omega
            have z5 : (x : Int) < (l.length : Int) := by omega
            have lm2 := (hlm.alloc (.cells #[.int .i64 f, .int .i64 t, .int .i64 co'] 60)).set t htn (max (dg D (t : Int)) (dg D (q : Int) + co'))
            have LM2 := Lib.hid lm2
            have HST := Lib.hid hst
            obtain ⟨c0, c1⟩ := hco
            obtain ⟨b10, b11⟩ := b1
            obtain ⟨b20, b21⟩ := b2
            have hbe := heap_alloc_new wr (.cells #[.int .i64 f, .int .i64 t, .int .i64 co'] 60)
            have f0 := blk_cell hbe 0
            have f1 := blk_cell hbe 1
            have f2 := blk_cell hbe 2
            simp only [List.getElem?_toArray, List.getElem?_cons_zero, List.getElem?_cons_succ] at f0 f1 f2
            obtain ⟨kc, kf⟩ := keepAt ((Below.refl wr.heap.size wr).alloc (Nat.le_refl _) (.cells #[.int .i64 f, .int .i64 t, .int .i64 co'] 60)) hSs
            have dc2 := (kc t).trans dc
            have ec2 := (kc q).trans ec
            have df2 := (kf t).trans df
            clear kc kf
            generalize dg D (t : Int) = y at *
            generalize dg D (q : Int) = u at *
            clear hlm lm2 hst hli hli' htd hlg hx' hjl hiq hel he t0 n1 n2 hbe
            go_wp2
            generalize (wr.alloc (.cells #[.int .i64 f, .int .i64 t, .int .i64 co'] 60)) = w5 at *
            clear dc ec df
            go_still_tail 17, (by kernel_rfl)
            change wpList _ _ _ _ _ w5.drew
            go_wp2
            have hmx : (if y < u + co' then u + co' else y) = max y (u + co') := by omega
            rw [hmx]
            go_roundw
            case rel => exact ⟨j + 1, _, by omega, by go_num, LM2.out.drew, HST⟩
            case measure => simp [intOf]; omega
          · obtain rfl : j = K := by omega
            have hli' := hli.out
            rw [List.drop_eq_nil_of_le (by rw [HKK.out]; exact Nat.le_refl _)] at hli'
            have hlb := hli'.stop
            rw [← HTK.out] at hlb
            have HLB := Lib.hid hlb
            have HLM := Lib.hid hlm
            clear hli hli' hlb hlm
            go_wp2
            go_roundw
            case rel => exact ⟨i + 1, D, by omega, by go_num, HLM.out, HLB⟩
            case measure => simp [intOf]; omega
      · obtain rfl : i = n := by omega
        have hfin := hlb.out
        rw [List.take_of_length_le (by have := HTOP.out.len; omega)] at hfin
        have HFIN := Lib.hid hfin
        have HLM := Lib.hid hlm
        clear hfin hlb hlm
        go_wp2
        go_ret2
        exact ⟨.inr ⟨S, D, rfl, HLM.out.dist, out, HTOP.out, HFIN.out⟩, HLM.out.lo⟩

set_option maxHeartbeats 1000000 in
theorem long_no (N : Int) (A : Option Addr) (c : Nat) (l : List E) (w : World) (hl : Sl w w.heap.size 3 ce A l) (hlen : l.length ≤ 9223372036854775807) (hg : chk N l ≠ 0) :
    Calls Try.prog 39 #[.agg #[.int .i64 N, .slice A l.length c]] w fun e w' => e = .returned (.tuple #[.slice none 0 0, .int .i64 (chk N l)]) ∧ Below w.heap.size w w' := by
  have hw0 : Below w.heap.size w (w.alloc (.cells #[.int .i64 N, .slice A l.length c] 24)) := (Below.refl _ _).alloc (Nat.le_refl _) _
  have key := order_no N A c l _ ((hl.keep hw0 (Nat.le_refl _)).more (show w.heap.size ≤ (w.alloc (.cells #[.int .i64 N, .slice A l.length c] 24)).heap.size by simp)) hlen hg
  have hne : (chk N l != 0) = true := by rw [bne_iff_ne]; exact hg
  generalize chk N l = er at *
  have KEY := Lib.hid key
  clear key hl hg
  go_enter Try.func39, Try.ntmps39
  go_wp2_with fail
  refine KEY.out.mono ?_
  rintro e w1 ⟨rfl, hb1⟩
  have H1 := hw0.trans (hb1.mono (by simp))
  go_wp2
  go_ret2
  exact ⟨rfl, H1⟩
end Go.Proofs.Ytdpjbjgecmnmnaa.Dag
