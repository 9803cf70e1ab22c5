/- The walk of span.tree with Neck's closure. (printed by gen_necktree.py) -/
import Derived.Test.YtdpjbjgecmnmnaaSpanTree
import Derived.Test.YtdpjbjgecmnmnaaNeckTell
import Derived.StillTailTactics
namespace Go.Proofs.Ytdpjbjgecmnmnaa.Span
open Go.RowKit Go.Proofs.Ytdpjbjgecmnmnaa NetLaw HeapLaw UnionLaw SpanLaw NeckLaw Go.Proofs.Ytdpjbjgecmnmnaa.Net Go.Proofs.Ytdpjbjgecmnmnaa.Heap Go.Proofs.Ytdpjbjgecmnmnaa.Union
set_option linter.unusedSimpArgs false
set_option linter.unusedVariables false

theorem bot_at {n j i pa pb : Nat} {l : List E} {X : List Pop} {out : List Nat} (hsd : Sd l X) (hj : j < X.length) (hXi : X[j] = (co l i, (i : Int)))
    (k0 : KR n (es l) (co l) ((ids X).take j) out (cur X j)) (k1 : KR n (es l) (co l) ((ids X).take (j + 1)) (out ++ [i]) (cur X (j + 1))) (hno : ¬ cn (out.map (es l)) pa pb) (hyes : cn ((out ++ [i]).map (es l)) pa pb) : Bot l pa pb (co l i) := by
  have hcur := cur_step hj hXi
  refine ⟨cn_mono (map_mono (f := es l) fun x hx => ?_) hyes, fun h => hno (cn_sub (fun p hp => ?_) h)⟩
  · have h1 := k1.sub x hx
    have h2 := k1.le x h1
    rw [hcur] at h2
    exact List.mem_filter.2 ⟨hsd.ids_perm.mem_iff.1 (List.mem_of_mem_take h1), by rw [decide_eq_true_eq]; exact h2⟩
  · rw [List.mem_map] at hp
    obtain ⟨x, hx, rfl⟩ := hp
    obtain ⟨hx1, hx2⟩ := List.mem_filter.1 hx
    rw [decide_eq_true_eq] at hx2
    refine k0.all x ?_
    have hm := hsd.ids_perm.mem_iff.2 hx1
    obtain ⟨m, hm1, hm2⟩ := List.mem_iff_getElem.1 hm
    have hmX : m < X.length := by simp [ids] at hm1; exact hm1
    have hmj : m < j := by
      rcases Nat.lt_or_ge m j with h' | h'
      · exact h'
      · obtain ⟨y, hy1, hy2, hy3⟩ := hsd.at_ hmX
        rw [List.getElem?_eq_getElem hm1, hm2] at hy3
        injection hy3 with hy3
        subst hy3
        rcases Nat.lt_or_ge j m with h2 | h2
        · have := hsd.le h2 hmX
          rw [hXi, hy2] at this
          simp only at this
          omega
        · obtain rfl : j = m := by omega
          rw [hXi] at hy2
          injection hy2 with hy2 _
          omega
    rw [List.mem_iff_getElem]
    exact ⟨m, by rw [List.length_take]; omega, by rw [List.getElem_take]; exact hm2⟩
/-- what tree does for Neck -/
def NeckSays (l : List E) (pa pb g9 g10 : Nat) (w : World) (e : Ending) (w' : World) : Prop :=
  ∃ u, e = .returned u ∧ ((Below w.heap.size w w' ∧ ¬ cn ((List.range l.length).map (es l)) pa pb) ∨ ∃ w1 x, Below w.heap.size w w1 ∧ w' = (w1.setCell ⟨g9, 0, none⟩ (.int .i64 x)).setCell ⟨g10, 0, none⟩ (.int .i64 0) ∧ Bot l pa pb x)

set_option maxRecDepth 100000 in
set_option maxHeartbeats 8000000 in
theorem tree_neck (n : Nat) (A : Option Addr) (c : Nat) (l : List E) (pa pb gA gB gN g9 g10 : Nat) (w : World) (hl : Sl w w.heap.size 3 ce A l) (hg : NetLaw.Good n l) (hpa : pa < n) (hpb : pb < n) (hab : pa ≠ pb) (hnb : Nb w n A c l pa pb gA gB gN g9 g10) :
    Calls Try.prog 71 #[.agg #[.int .i64 n, .slice A l.length c], .func (.func 76) #[] #[.pointer (some ⟨gA, 0, none⟩), .pointer (some ⟨gB, 0, none⟩), .pointer (some ⟨gN, 0, none⟩), .pointer (some ⟨g9, 0, none⟩), .pointer (some ⟨g10, 0, none⟩)]] w fun e w' => NeckSays l pa pb g9 g10 w e w' := by
  obtain ⟨i0, hi, hz0, hz1, hz2⟩ := info_parts infoIS
  obtain ⟨p0, hpi, hpz0, hpz1, hpz2⟩ := info_parts infoPop
  have hN := hg.hi
  have hlen := hg.len
  have h6z : l.length ≤ 600 := hg.len
  have hbox0 := heap_alloc_new w (.cells #[.int .i64 n, .slice A l.length c] 24)
  have hw0 : Below w.heap.size w (w.alloc (.cells #[.int .i64 n, .slice A l.length c] 24)) := (Below.refl _ _).alloc (Nat.le_refl _) _
  have HBOX0 := Lib.hid hbox0
  have HG := Lib.hid hg
  have NB := Lib.hid hnb
  have hgx : gA < w.heap.size ∧ gB < w.heap.size ∧ gN < w.heap.size ∧ g9 < w.heap.size ∧ g10 < w.heap.size := ⟨lt_of_block hnb.ca, lt_of_block hnb.cb, lt_of_block hnb.cn, lt_of_block hnb.c9, lt_of_block hnb.c10⟩
  have HGX := Lib.hid hgx
  have hcn0 : ¬ cn ([] : List P2) pa pb := fun h => hab (by have e : ∀ i : Nat, root (grp []) i = i := fun i => root_fix rfl; unfold cn at h; rw [e, e] at h; exact h)
  have CN0 := Lib.hid hcn0
  clear hnb hgx hcn0 hab
  have HSL0 := Lib.hid hl
  clear hbox0 hg hl
  go_enter Try.func71, Try.ntmps71
  go_wp2
  go_loopw [5, 15] (fun s5 i wr => ∃ (k : Nat) (A5 : Option Addr) (c5 : Nat), k ≤ l.length ∧ i = .int .i64 k ∧ s5 = .slice A5 k c5 ∧ Own wr w.heap.size 109 2 cp (.slice A5 k c5) (pl l k) ∧ wr.heap[w.heap.size]? = some (.cells #[.int .i64 n, .slice A l.length c] 24 (0, 0)) ∧ Below w.heap.size w wr) (fun _ i _ => l.length - (intOf i).toNat)
  case atStart => exact ⟨0, none, 0, Nat.zero_le _, rfl, rfl, Own.nil_, HBOX0.out, hw0⟩
  case round =>
    clear HBOX0
    obtain ⟨k, A5, c5, hk, rfl, rfl, own, hbox, hB⟩ := hrel
    by_cases hlt : k < l.length
    · obtain ⟨b, off, f, t, cc, rfl, hbB, he, hcf, hct, hcc⟩ := (HSL0.out.keep hB (Nat.le_refl _)).atE hlt
      have hst := pl_snoc l k
      have hco : co l k = cc := by unfold co; rw [getD_at hlt, he]
      rw [hco] at hst
      have hpl := pl_len l k
      have own2 := (own.alloc (.cells #[.int .i64 f, .int .i64 t, .int .i64 cc] 60)).alloc (.cells #[.int .i64 cc, .int .i64 k] 109)
      have hbox2 := blk_alloc (blk_alloc hbox (.cells #[.int .i64 f, .int .i64 t, .int .i64 cc] 60)) (.cells #[.int .i64 cc, .int .i64 k] 109)
      have hne := own2.ne_ hbox2 (by decide)
      have hbsz := hB.size
      have hB2 := (hB.alloc hbsz (.cells #[.int .i64 f, .int .i64 t, .int .i64 cc] 60)).alloc (by simp; omega) (.cells #[.int .i64 cc, .int .i64 k] 109)
      have HST := Lib.hid hst
      have HPL := Lib.hid hpl
      have HBOX2 := Lib.hid hbox2
      have HNE := Lib.hid hne
      have HLO := Lib.hid own2.lo
      clear hst hco hpl hbox2 hne he hbox own
      go_wp2_with (at_builtin; refine wpList_push _ rfl (.tmp 20) (.tmp 25) _ rfl w.heap.size 109 p0 _ 2 16 cp Try.underlying116 hpi hpz0 hpz1 hpz2 rfl (by decide) _ (pl l k) k HPL.out rfl own2 (wr.heap.size + 1) 1 (cc, (k : Int)) rfl (news2' (by simp)) (fun _ _ => one_cp _ _) (by omega) (by omega) (by simp; omega) ?_; intro A3 c3 w4 hown3 hgrow3 hat3; rw [← HST.out] at hown3; have hb3 := blk_grown HBOX2.out hgrow3 HNE.out; have hB3 := hB2.grown hgrow3 (by simp; omega) HLO.out; clear hgrow3 hat3)
      have HOWN3 := Lib.hid hown3
      clear hown3
      go_roundw
      case rel => exact ⟨k + 1, A3, c3, by omega, by go_num, rfl, HOWN3.out, hb3, hB3⟩
      case measure => simp [intOf]; omega
    · obtain rfl : k = l.length := by omega
      obtain ⟨wo, rfl⟩ : ∃ wo : World, wo = wr := ⟨_, rfl⟩
      have knew := Union.new_any n wo (by omega)
      have r0 := blk_cell hbox 0
      simp only [List.getElem?_toArray, List.getElem?_cons_zero] at r0
      have KNEW := Lib.hid knew
      have OWN := Lib.hid own
      have HBOX := Lib.hid hbox
      clear knew own hbox hlt
      go_wp2_with fail
      refine KNEW.out.mono ?_
      rintro e w2 ⟨G, v, rfl, hgrp, hb2⟩
      have own2 := OWN.out.keep hb2
      have ks := sort_any A5 c5 (pl l l.length) w2 own2.sl.2 (by rw [pl_len]; omega)
      rw [pl_len] at ks
      have H2 := hB.trans (hb2.mono hB.size)
      have hbox2 := blk_below HBOX.out hb2 (lt_of_block HBOX.out)
      have KS := Lib.hid ks
      have HGRP := Lib.hid hgrp
      have HBOX2 := Lib.hid hbox2
      have zB : w.heap.size ≤ wo.heap.size := hB.size
      clear ks own2 hgrp hbox2 hb2 r0 KNEW
      go_wp2_with fail
      refine KS.out.mono ?_
      rintro e w3 ⟨A3, c3, X, rfl, ownX, hpm, hsr, hb3⟩
      rw [pl_len] at ownX ⊢
      have hsd : Sd l X := ⟨hpm, hsr⟩
      have hXl := hsd.len
      have g2 := HGRP.out
      have tm3 : Tm w w3 n A c l wo.heap.size G v (List.range n) A3 c3 X none 0 0 [] := ⟨blk_below HBOX2.out hb3 (lt_of_block HBOX2.out), ⟨g2.base, blk_below g2.blk hb3 (lt_of_block g2.blk), (show Own w2 wo.heap.size 3 1 (fun (i : Nat) _ => Value.int .i64 (i : Int)) v (List.range n) from by
        have := g2.row
        unfold Own
        rw [fl_map]
        exact this).keep hb3 |> fun k => by
          unfold Own at k
          rw [fl_map] at k
          exact k⟩, zB, by rw [hXl]; exact ownX.mono H2.size, Own.nil_, rfl, (fun g e => by cases e), H2.trans (hb3.mono H2.size)⟩
      have TM3 := Lib.hid tm3
      have HSD := Lib.hid hsd
      have hX6 : X.length ≤ 600 := by omega
      rw [← hXl]
      clear tm3 ownX hpm hsr hb3 hsd g2 KS HGRP HBOX2 OWN HBOX H2 hXl
      go_wp2
      go_loopw [9, 34] (fun s9 s wx => ∃ (j : Nat) (L : List Nat) (Ao : Option Addr) (mo co' : Nat) (out : List Nat), j ≤ X.length ∧ s = .int .i64 j ∧ s9 = .slice Ao mo co' ∧ Tm w wx n A c l wo.heap.size G v L A3 c3 X Ao mo co' out ∧ Down L ∧ L.length = n ∧ Hid (Inv (out.map (es l)) (fn L)) ∧ Hid (KR n (es l) (co l) ((ids X).take j) out (cur X j)) ∧ Hid (¬ cn (out.map (es l)) pa pb)) (fun _ s _ => X.length - (intOf s).toNat)
      case atStart => exact ⟨0, _, none, 0, 0, [], Nat.zero_le _, rfl, rfl, TM3.out, down_range n, by simp, Lib.hid (inv_range n), Lib.hid (KR.start _ _ _ _), CN0⟩
      case round =>
        clear TM3
        obtain ⟨j, L, Ao, mo, co', out, hj, rfl, rfl, htm, hdn, hLl, hinv, hkr, hncn⟩ := hrel
        have HKR0 := hkr
        by_cases hlt : j < X.length
        · obtain ⟨i, hil, hXi, hid⟩ := HSD.out.at_ hlt
          obtain ⟨bx, ox, x, y, rfl, hbx, hxe, hx0, hx1⟩ := Sl.atP htm.srt.sl.2 hlt
          rw [hXi] at hxe
          injection hxe with hxe1 hxe2
          subst hxe2
          obtain ⟨b, off, f, t, cc, rfl, hbB, he, hcf, hct, hcc⟩ := (HSL0.out.keep htm.lo (Nat.le_refl _)).atE hil
          have hen := HG.out.ends _ (List.getElem_mem hil)
          rw [he] at hen
          obtain ⟨f0, f1, t0, t1⟩ := hen
          simp only at f0 f1 t0 t1
          obtain ⟨f, rfl⟩ := Int.eq_ofNat_of_zero_le f0
          obtain ⟨t, rfl⟩ := Int.eq_ofNat_of_zero_le t0
          have hbot := fun (k1 : KR n (es l) (co l) ((ids X).take (j + 1)) (out ++ [i]) (cur X (j + 1))) (hy : cn ((out ++ [i]).map (es l)) pa pb) => bot_at HSD.out hlt hXi HKR0.out k1 hncn.out hy
          have HBOT := Lib.hid hbot
          clear hbot
          have hes : es l i = (f, t) := by unfold es; rw [getD_at hil, he]; simp
          have hnew := HSD.out.new hid
          have hcl := cur_le HG.out HSD.out hlt hXi
          have hcs := cur_step hlt hXi
          have htk : (ids X).take (j + 1) = (ids X).take j ++ [i] := by
            obtain ⟨h1, h2⟩ := List.getElem?_eq_some_iff.1 hid
            rw [List.take_succ_eq_append_getElem h1, h2]
          have hcn := cn_of hdn hinv.out f t
          have hbox := htm.box
          have b0 := blk_cell hbox 0
          have b1 := blk_cell hbox 1
          simp only [List.getElem?_toArray, List.getElem?_cons_zero, List.getElem?_cons_succ] at b0 b1
          have hzw := lt_of_block hbox
          have hbw : b < wr.heap.size := by have := htm.lo.size; omega
          have hbe := heap_alloc_new wr (.cells #[.int .i64 x, .int .i64 i] 109)
          have e1 := blk_cell hbe 1
          simp only [List.getElem?_toArray, List.getElem?_cons_zero, List.getElem?_cons_succ] at e1
          obtain ⟨kc, _⟩ := keepAt ((Below.refl wr.heap.size wr).alloc (Nat.le_refl _) (.cells #[.int .i64 x, .int .i64 i] 109)) hzw
          have b1' := (kc 1).trans b1
          obtain ⟨kc2, _⟩ := keepAt ((Below.refl wr.heap.size wr).alloc (Nat.le_refl _) (.cells #[.int .i64 x, .int .i64 i] 109)) hbw
          have g0 := (kc2 _).trans hcf
          have g1 := (kc2 _).trans hct
          have tm2 := htm.alloc (.cells #[.int .i64 x, .int .i64 i] 109)
          have z5 : (i : Int) < (l.length : Int) := by omega
          have z6 : (j : Int) < (X.length : Int) := by omega
          have TM2 := Lib.hid tm2
          have HES := Lib.hid hes
          have HNEW := Lib.hid hnew
          have HCL := Lib.hid hcl
          have HCS := Lib.hid hcs
          have HTK := Lib.hid htk
          have HCN := Lib.hid hcn
          have HDN := Lib.hid hdn
          have HLL := Lib.hid hLl
          have HBE := Lib.hid hbe
          have hfl : f < L.length := by omega
          have htl : t < L.length := by omega
          have hL64 : L.length ≤ 64 := by omega
          clear htm tm2 hes hnew hcl hcs htk hcn hdn hLl hbe kc kc2 he hid hXi hbox f0 t0
          go_wp2
          generalize (wr.alloc (.cells #[.int .i64 x, .int .i64 i] 109)) = w5 at *
          clear hx0 hx1 b0 b1 hcf hct hcc
          go_still_tail 15, (by kernel_rfl)
          change wpList _ _ _ _ _ w5.drew
          have kj := Union.join_any wo.heap.size G f t v L w5.drew TM2.out.drew.grp HDN.out hfl htl hL64
          by_cases hc : root (fn L) f = root (fn L) t
          · have hb : (root (fn L) f != root (fn L) t) = false := by simp [hc]
            rw [hb] at kj
            have hk2 := HKR0.out.skip HNEW.out HCL.out (by rw [HES.out]; exact HCN.out.1 hc)
            rw [← HTK.out, ← HCS.out] at hk2
            have KJ := Lib.hid kj
            have HK2 := Lib.hid hk2
            have HC := Lib.hid hc
            clear kj hb hk2 hc hkr
            go_wp2_with fail
            refine KJ.out.mono ?_
            rintro e w6 ⟨rfl, L', hjn⟩
            have tm6 := TM2.out.drew.join hjn.only hjn.grp
            have hinv6 : Inv (out.map (es l)) (fn L') := hinv.out.congr fun m => by
              rw [hjn.root, HC.out]
              split <;> omega
            have TM6 := Lib.hid tm6
            have HINV6 := Lib.hid hinv6
            have hd6 := Lib.hid hjn.down
            have hl6 := Lib.hid (hjn.len.trans HLL.out)
            clear tm6 hinv6 hjn hinv
            go_wp2
            go_roundw
            case rel => exact ⟨j + 1, L', Ao, mo, co', out, by omega, by go_num, rfl, TM6.out, hd6.out, hl6.out, HINV6, HK2, hncn⟩
            case measure => simp [intOf]; omega
          · have hb : (root (fn L) f != root (fn L) t) = true := by rw [bne_iff_ne]; exact hc
            rw [hb] at kj
            have hbd := es_bd HG.out hil
            have hk2 := HKR0.out.take HNEW.out HCL.out hbd (by rw [HES.out]; exact fun x => hc (HCN.out.2 x))
            rw [← HTK.out, ← HCS.out] at hk2
            have KJ := Lib.hid kj
            have HK2 := Lib.hid hk2
            have hmo : mo < n := by
              have h1 := HKR0.out.take HNEW.out HCL.out hbd (by rw [HES.out]; exact fun x => hc (HCN.out.2 x))
              have h2 := h1.ind
              have h3 := rk_le n ((out ++ [i]).map (es l))
              unfold Ind at h2
              have h4 := TM2.out.olen
              simp at h2
              simp at h3
              omega
            have hji := hinv.out.join HDN.out f t
            have HJI := Lib.hid hji
            clear kj hb hk2 hc hkr hji hbd
            go_wp2_with fail
            refine KJ.out.mono ?_
            rintro e w6 ⟨rfl, L', hjn⟩
            have tm6 := TM2.out.drew.join hjn.only hjn.grp
            have hinv6 : Inv ((out ++ [i]).map (es l)) (fn L') := by
              rw [List.map_append, List.map_singleton, HES.out]
              exact HJI.out.congr fun m => by rw [hjn.root, root_join HDN.out (root_is HDN.out f) (root_is HDN.out t)]
            have hbe6 := kept_blk TM2.out.drew.grp hjn.only HBE.out (by decide)
            have e6 := blk_cell hbe6 1
            simp only [List.getElem?_toArray, List.getElem?_cons_zero, List.getElem?_cons_succ] at e6
            have TM6 := Lib.hid tm6
            have HINV6 := Lib.hid hinv6
            have HBE6 := Lib.hid hbe6
            have hd6 := Lib.hid hjn.down
            have hl6 := Lib.hid (hjn.len.trans HLL.out)
            have ow6 := tm6.ow.alloc (.cells #[.int .i64 i] 3)
            have OLEN := Lib.hid ((zs_len out).trans tm6.olen)
            have OLEN2 := Lib.hid tm6.olen
            have hz6 := tm6.lo.size
            clear tm6 hinv6 hjn hinv e1 b1' g0 g1 hbe6
            go_wp2_with (at_builtin; refine wpList_push _ rfl (.tmp 54) (.tmp 57) _ rfl w.heap.size 3 i0 (.int .i64 0) 1 8 ci Try.underlying25 hi hz0 hz1 hz2 rfl (by decide) _ (zs out) mo OLEN.out rfl ow6 w6.heap.size 1 (i : Int) rfl news1 (fun _ _ => one_ci _ _) (by omega) (by omega) (by simp; omega) ?_; intro A7 c7 w7 hown7 hgrow7 hat7; rw [← zs_snoc] at hown7; have tm7 := (TM6.out.alloc _).grow (out' := out ++ [i]) hgrow7 hown7 (by simp [OLEN2.out]) (by rcases hat7 with h1 | h1; exact .inl ((ob_eq A7 (mo + 1) c7).symm.trans (h1.trans (ob_eq Ao mo co'))); exact .inr ⟨_, (ob_eq ..).symm.trans h1, by simp⟩); have e7 := blk_cell (blk_grown (blk_alloc HBE6.out _) hgrow7 (ow6.ne_ (blk_alloc HBE6.out _) (by decide))) 1; simp only [List.getElem?_toArray, List.getElem?_cons_zero, List.getElem?_cons_succ] at e7; have TM7 := Lib.hid tm7; clear hown7 hgrow7 hat7 tm7)
            have hBG := TM7.out.grp.base
            have hGz := lt_of_block TM7.out.grp.blk
            have kt := tell_neck n _ c l pa pb gA gB gN g9 g10 wo.heap.size w.heap.size G v L' i w7 (NB.out.below TM7.out.lo) (by have := HGX.out; omega) (HSL0.out.keep TM7.out.lo (Nat.le_refl _)) zB TM7.out.grp hd6.out (by rw [hl6.out]; exact hpa) (by rw [hl6.out]; exact hpb) (by rw [hl6.out]; exact Nat.le_trans (Nat.le_of_lt_succ (by omega)) (Nat.le_refl _)) hil h6z (by omega)
            have KT := Lib.hid kt
            clear kt
            go_wp2_with fail
            refine KT.out.mono ?_
            rintro e w8 ⟨w1, L8, kk, ⟨hr, rfl, rfl⟩ | ⟨hr, rfl, rfl⟩⟩
            · have tm8 := TM7.out.join kk.only kk.grp
              have hncn8 : ¬ cn ((out ++ [i]).map (es l)) pa pb := fun h => hr ((cn_of hd6.out HINV6.out pa pb).2 h)
              have hinv8 : Inv ((out ++ [i]).map (es l)) (fn L8) := HINV6.out.congr kk.root
              have TM8 := Lib.hid tm8
              have HNCN8 := Lib.hid hncn8
              have HINV8 := Lib.hid hinv8
              have hd8 := Lib.hid kk.down
              have hl8 := Lib.hid (kk.len.trans hl6.out)
              clear tm8 hncn8 hinv8 kk hr
              go_wp2
              go_roundw
              case rel => exact ⟨j + 1, L8, A7, mo + 1, c7, out ++ [i], by omega, by go_num, rfl, TM8.out, hd8.out, hl8.out, HINV8, HK2, HNCN8⟩
              case measure => simp [intOf]; omega
            · have hb8 := (TM7.out.join kk.only kk.grp).lo
              have hbo := HBOT.out HK2.out ((cn_of hd6.out HINV6.out pa pb).1 hr)
              have HBO := Lib.hid hbo
              have HB8 := Lib.hid hb8
              clear kk hr hbo hb8
              go_wp2
              go_ret
              exact ⟨_, rfl, .inr ⟨w1, _, HB8.out, rfl, hxe1 ▸ HBO.out⟩⟩
        · obtain rfl : j = X.length := by omega
          obtain rfl := htm.olen
          have hfin := hkr.out
          rw [List.take_of_length_le (by simp [ids])] at hfin
          have hall : ¬ cn ((List.range l.length).map (es l)) pa pb := fun h => hncn.out (cn_sub (fun p hp => by
            rw [List.mem_map] at hp
            obtain ⟨i, hi, rfl⟩ := hp
            exact hfin.all i (HSD.out.ids_perm.mem_iff.2 hi)) h)
          have HALL := Lib.hid hall
          clear hall
          have HTM := Lib.hid htm
          clear htm hfin hkr hinv
          go_wp2
          go_ret
          exact ⟨_, rfl, .inl ⟨HTM.out.lo, HALL.out⟩⟩
end Go.Proofs.Ytdpjbjgecmnmnaa.Span
