/- The walk of hier.abstract. -/
import Derived.Test.YtbgkkmcobijkgaaVHierDoorsW
import Derived.Test.YtbgkkmcobijkgaaVDijkRun
namespace Go.Proofs.Ytbgkkmcobijkgaa.Hier
open NetLaw hiding E
open Go.RowKit Go.Proofs.Ytbgkkmcobijkgaa BellLaw DijkLaw GridLaw GroundLaw HierLaw Go.Proofs.Ytbgkkmcobijkgaa.Grid Go.Proofs.Ytbgkkmcobijkgaa.Net Go.Proofs.Ytbgkkmcobijkgaa.NetOf Go.Proofs.Ytbgkkmcobijkgaa.Flow Go.Proofs.Ytbgkkmcobijkgaa.Std Go.Proofs.Ytbgkkmcobijkgaa.Dijk
set_option linter.unusedSimpArgs false
set_option linter.unusedVariables false
/-- rows of two kinds lie apart -/
theorem own_sep {α β : Type} {w : World} {b1 b2 : Nat} {e1 e2 : TypeId} {s1 s2 : Nat} {c1 : α → Nat → Value} {c2 : β → Nat → Value} {v1 v2 : Value} {l1 : List α} {l2 : List β} (h1 : Own w b1 e1 s1 c1 v1 l1) (h2 : Own w b2 e2 s2 c2 v2 l2) (hne : e1 ≠ e2) : v1.ownBlock = none ∨ v1.ownBlock ≠ v2.ownBlock := by
  rcases h2.2 with ⟨rfl, _⟩ | ⟨g, cap, cur, rfl, _, hh, _⟩
  · cases h : v1.ownBlock with
    | none => exact .inl rfl
    | some k => exact .inr (by simp [Value.ownBlock])
  · exact .inr (h1.ne_ hh hne)
theorem mrk_nil (b : List E) (n : Nat) : mrk b [] n = dtab b n := by
  unfold mrk dtab
  simp
theorem inn_good {W k : Int} {N : Int} {l : List E} (h : NetLaw.Good N l) : NetLaw.Good N (inn W k l) :=
  ⟨h.lo, h.hi, by have := inn_len W k l; have := h.len; omega, fun e he => h.ends e (inn_sub he), fun e he => h.cost e (inn_sub he)⟩
/-- what abstract answers -/
def AbsSays (n : Nat) (ins bts : List E) (too : List Int) (w : World) (e : Ending) (w' : World) : Prop :=
  ∃ A p c L, e = .returned (.agg #[.int .i64 n, .slice A p c]) ∧ L.length = p ∧ p ≤ 6000 ∧ Own w' w.heap.size 37 3 ce (.slice A p c) L ∧
    Hid (∃ Dn, Abs n ins bts L (fun v => isD bts v || decide (v ∈ too)) Dn ∧ ∀ a : Int, 0 ≤ a → a < n → (isD bts a || decide (a ∈ too)) = true → Sh n a ins (Dn a)) ∧ Below w.heap.size w w'
set_option maxRecDepth 100000 in
set_option maxHeartbeats 4000000 in
theorem abstract_any (W H k : Int) (A0 : Option Addr) (n c0 : Nat) (l : List Int) (At : Option Addr) (mt ct : Nat) (too : List Int) (w : World) (hn : l.length = n) (hl : Sl w w.heap.size 1 ci A0 l) (hg : GGood W H l) (hk1 : 1 ≤ k) (hk8 : k ≤ 8)
    (hmt : too.length = mt) (hmt2 : mt ≤ 64) (ht : Sl w w.heap.size 1 ci At too) (htoo : ∀ v ∈ too, 0 ≤ v ∧ v < n) :
    Calls Try.prog 58 #[.agg #[.int .i64 W, .int .i64 H, .slice A0 n c0], .int .i64 k, .slice At mt ct] w fun e w' => AbsSays n (inn W k (allM W H l n)) (btw W k (allM W H l n)) too w e w' := by
  obtain ⟨i0, hi, hz0, hz1, hz2⟩ := info_parts Net.infoEdge
  have hw0 : Below w.heap.size w ((w.alloc (.cells #[.int .i64 W, .int .i64 H, .slice A0 n c0] 24)).alloc (.cells #[.int .i64 0, .slice none 0 0] 32)) := ((Below.refl _ _).alloc (Nat.le_refl _) _).alloc (by simp) _
  have hR6 := heap_alloc_new (w.alloc (.cells #[.int .i64 W, .int .i64 H, .slice A0 n c0] 24)) (.cells #[.int .i64 0, .slice none 0 0] 32)
  rw [show (w.alloc (.cells #[.int .i64 W, .int .i64 H, .slice A0 n c0] 24)).heap.size = w.heap.size + 1 by simp] at hR6
  have hsz := size_bd hg
  have hgood := ground_good hg
  have hpos := ground_pos hg
  rw [hn] at hsz hgood hpos
  have kw := within_any W H k A0 n c0 l _ hn ((hl.keep hw0 (Nat.le_refl _)).more hw0.size) hg hk1 hk8
  have hbl : (btw W k (allM W H l n)).length ≤ 600 := by
    have h1 := btw_len W k (allM W H l n)
    have h2 := allM_len W H l n
    omega
  have hil : (inn W k (allM W H l n)).length ≤ 600 := by
    have h1 := inn_len W k (allM W H l n)
    have h2 := allM_len W H l n
    omega
  have hends : ∀ e ∈ btw W k (allM W H l n), 0 ≤ e.1 ∧ e.1 < n ∧ 0 ≤ e.2.1 ∧ e.2.1 < n := fun e he => hgood.ends e (btw_sub he)
  have hne := btw_ne (W := W) (k := k) (l := allM W H l n)
  have hig := inn_good (W := W) (k := k) hgood
  have hic : ∀ e ∈ inn W k (allM W H l n), 0 ≤ e.2.2 := fun e he => by have := hpos e (inn_sub he); omega
  generalize allM W H l n = all at *
  generalize hbts : btw W k all = bts at *
  generalize hins : inn W k all = ins at *
  have HBT := Lib.hid hbts
  have HIN := Lib.hid hins
  clear hbts hins
  have kd := fun A m c W' hm h => doors_any n A m c bts W' hm h (by omega) (by omega) hends hne
  have kr := fun (a : Nat) A c W' h (ha : a < n) => run_any n a A c ins W' h hig ha hic
  have KW := Lib.hid kw
  have KD := Lib.hid kd
  have KR := Lib.hid kr
  have HSL := Lib.hid ht
  have HT := Lib.hid hmt
  have HTB := Lib.hid htoo
  have HR6 := Lib.hid hR6
  have HBL := Lib.hid hbl
  have HIL := Lib.hid hil
  clear kw kd kr hl hends hne hg hgood hpos hn hig hic ht hmt htoo hR6 hbl hil
  go_enter Try.func58, Try.ntmps58
  go_wp2_with fail
  refine KW.out.mono ?_
  rintro e w2 ⟨A4, c4, A5, c5, p4, p5, rfl, n4, n5, o4, o5, hb2⟩
  rw [HIN.out] at n4 o4
  rw [HBT.out] at n5 o5
  have B2 := hw0.trans (hb2.mono hw0.size)
  have R62 := blk_below HR6.out hb2 (by simp)
  have N4 := Lib.hid n4
  have N5 := Lib.hid n5
  have OW4 := Lib.hid o4
  have OW5 := Lib.hid o5
  have HB2 := Lib.hid B2
  have HR62 := Lib.hid R62
  clear n4 n5 o4 o5 hb2 B2 R62 KW HR6
  have hzw2 := HB2.out.size
  have hzw2' := lt_of_block HR62.out
  have B3a := (HB2.out.alloc hzw2 (.cells #[.int .i64 n, .slice A4 p4 c4] 32)).alloc (by simp; omega) (.cells #[.int .i64 n, .slice A5 p5 c5] 32)
  have O5a := (OW5.out.alloc (.cells #[.int .i64 n, .slice A4 p4 c4] 32)).alloc (.cells #[.int .i64 n, .slice A5 p5 c5] 32)
  have R7a := blk_alloc (heap_alloc_new w2 (.cells #[.int .i64 n, .slice A4 p4 c4] 32)) (.cells #[.int .i64 n, .slice A5 p5 c5] 32)
  have R8a := heap_alloc_new (w2.alloc (.cells #[.int .i64 n, .slice A4 p4 c4] 32)) (.cells #[.int .i64 n, .slice A5 p5 c5] 32)
  rw [show (w2.alloc (.cells #[.int .i64 n, .slice A4 p4 c4] 32)).heap.size = w2.heap.size + 1 by simp] at R8a
  have sl5 := O5a.sl.2
  have SL5 := Lib.hid sl5
  have H3 := Lib.hid B3a
  have HR7 := Lib.hid R7a
  have HR8 := Lib.hid R8a
  clear B3a O5a R7a R8a sl5
  go_wp2_with fail
  refine (KD.out _ _ _ _ N5.out SL5.out).mono ?_
  rintro e w3 ⟨S, rfl, ownT, hb3⟩
  have hS2 : w2.heap.size + 2 ≤ S := by have := (ownT.base_ S rfl).1; simp at this; omega
  have hS3 := (ownT.base_ S rfl).2
  have R73 := blk_below HR7.out hb3 (by simp; omega)
  have R83 := blk_below HR8.out hb3 (by simp)
  have R63 : w3.heap[w.heap.size + 1]? = some (.cells #[.int .i64 0, .slice none 0 0] 32 (0, 0)) := blk_below (blk_alloc (blk_alloc HR62.out _) _) hb3 (by simp; omega)
  have B3 := H3.out.trans (hb3.mono H3.out.size)
  have b23 : Below w2.heap.size w2 w3 := (((Below.refl _ _).alloc (Nat.le_refl _) _).alloc (by simp) _).trans (hb3.mono (by simp; omega))
  have OW43 := Lib.hid (OW4.out.keep b23)
  have OW53 := Lib.hid (OW5.out.keep b23)
  have HT3 := Lib.hid ownT
  have HR73 := Lib.hid R73
  have HR83 := Lib.hid R83
  have HR63 := Lib.hid R63
  have HB3 := Lib.hid B3
  have l4 : ∀ g, (Value.slice A4 p4 c4).ownBlock = some g → g < S := fun g hg => by have := (OW4.out.base_ g hg).2; omega
  have l5 : ∀ g, (Value.slice A5 p5 c5).ownBlock = some g → g < S := fun g hg => by have := (OW5.out.base_ g hg).2; omega
  have HL4 := Lib.hid l4
  have HL5 := Lib.hid l5
  clear R73 R83 R63 B3 b23 ownT hb3 SL5 H3 HR7 HR8 HR62 OW4 OW5 HB2 KD l4 l5
  go_wp2
  go_loopw [27] (fun i wr => ∃ j : Nat, j ≤ mt ∧ i = .int .i64 j ∧ Hid (Own wr w.heap.size 4 1 cb (.slice (some ⟨S, 0, none⟩) n n) (mrk bts (too.take j) n)) ∧ Hid (Below S w3 wr)) (fun i _ => mt - (intOf i).toNat)
  case atStart => exact ⟨0, Nat.zero_le _, rfl, Lib.hid (by rw [List.take_zero, mrk_nil]; exact HT3.out.mono (by simp; omega)), Lib.hid (Below.refl _ _)⟩
  case round =>
    obtain ⟨j, hj, rfl, OT, HBr⟩ := hrel
    clear HT3
    by_cases hlt : j < mt
    · have hja : j < too.length := by rw [HT.out]; exact hlt
      obtain ⟨b1, o1, rfl, hb1, hcx⟩ := ((HSL.out.keep HB3.out (Nat.le_refl _)).keep HBr.out (by omega)).atI hja
      obtain ⟨v0, v1⟩ := HTB.out _ (List.getElem_mem hja)
      have hst0 := fun x he => mrk_step (b := bts) (n := n) (x := x) hja he
      obtain ⟨x, hx⟩ := Int.eq_ofNat_of_zero_le v0
      have hst := hst0 x hx
      rw [hx] at hcx v1
      have hxn : x < n := by omega
      obtain ⟨cx, fx⟩ := own_atG false (mrk_len bts (too.take j) n) OT.out hxn
      unfold cb at cx
      have HST := Lib.hid hst
      have hbr1 : b1 < wr.heap.size := by have := HBr.out.size; omega
      have z4 : (j : Int) < (mt : Int) := by omega
      have hSr := (OT.out.base_ S rfl).2
      generalize (mrk bts (too.take j) n).getD x false = bx at *
      clear hst0 hst hx hja v0
      go_wp2
      go_roundw
      case rel => exact ⟨j + 1, by omega, by go_num, Lib.hid (by rw [← HST.out]; exact own_setG (cell := cb) (mrk_len bts (too.take j) n) OT.out x hxn true), Lib.hid (HBr.out.setCell (by exact Nat.le_refl _) _)⟩
      case measure => simp [intOf]; omega
    · obtain rfl : j = mt := by omega
      have ot := OT.out
      rw [List.take_of_length_le (by rw [HT.out]; exact Nat.le_refl _)] at ot
      obtain ⟨wa, rfl⟩ : ∃ wa : World, wa = wr := ⟨_, rfl⟩
      have OTA := Lib.hid ot
      have hSa := (ot.base_ S rfl).2
      have R7 := Lib.hid (blk_below HR73.out HBr.out (by omega))
      have R8 := Lib.hid (blk_below HR83.out HBr.out (by omega))
      have R6 := Lib.hid (blk_below HR63.out HBr.out (by omega))
      have O4 := Lib.hid (OW43.out.below HBr.out HL4.out)
      have O5 := Lib.hid (OW53.out.below HBr.out HL5.out)
      have HBA := Lib.hid (HB3.out.trans (HBr.out.mono (by omega)))
      have q70 := blk_cell R7.out 0
      simp only [List.getElem?_toArray, List.getElem?_cons_zero, List.getElem?_cons_succ] at q70
      have kr' : ∀ (a : Nat) (X : World), a < n → Below wa.heap.size wa X → Calls Try.prog 53 #[.agg #[.int .i64 n, .slice A4 p4 c4], .int .i64 a] X fun e w' => RunSays n a ins X e w' := fun a X ha hX => by
        have hs := (O4.out.keep hX).sl.2
        have := KR.out a A4 c4 X hs ha
        rwa [N4.out] at this
      have KR' := Lib.hid kr'
      clear ot OT HR73 HR83 HR63 OW43 OW53 HBr HB3 kr' KR HTB HSL
      go_wp2
      have w40 := heap_alloc_new wa (.cells #[.int .i64 n, .slice none 0 0] 32)
      have HW40 := Lib.hid w40
      clear w40 q70
      go_loopw [40] (fun i wr => ∃ (a : Nat) (Aq : Option Addr) (pq cq : Nat) (L : List E) (Dn : Int → List Int), a ≤ n ∧ i = .int .i64 a ∧ Hid (Below wa.heap.size wa wr) ∧ Hid (wr.heap[wa.heap.size]? = some (.cells #[.int .i64 n, .slice Aq pq cq] 32 (0, 0))) ∧ Hid (Own wr (wa.heap.size + 1) 37 3 ce (.slice Aq pq cq) L) ∧ Hid (L.length = pq) ∧ Hid (AbsP n ins (fun v => isD bts v || decide (v ∈ too)) Dn a a 0 L)) (fun i _ => n - (intOf i).toNat)
      case atStart => exact ⟨0, none, 0, 0, [], fun _ => [], Nat.zero_le _, rfl, Lib.hid ((Below.refl _ _).alloc (Nat.le_refl _) _), HW40, Lib.hid Own.nil_, Lib.hid rfl, Lib.hid AbsP.start⟩
      case round =>
        clear HW40
        obtain ⟨a, Aq, pq, cq, L, Dn, ha, rfl, HBr, HQ, OQ, HLQ, HP⟩ := hrel
        obtain ⟨wo, rfl⟩ : ∃ wo : World, wo = wr := ⟨_, rfl⟩
        have zo := lt_of_block HQ.out
        by_cases hlt : a < n
        · obtain ⟨cx, _⟩ := own_atG false (mrk_len bts too n) (OTA.out.keep HBr.out) hlt
          rw [mrk_get hlt] at cx
          unfold cb at cx
          have z4 : (a : Int) < (n : Int) := by omega
          have hSo : S < wo.heap.size := by omega
          cases hd : (isD bts (a : Int) || decide ((a : Int) ∈ too)) with
          | false =>
            rw [hd] at cx
            have HD := Lib.hid hd
            clear hd
            go_wp2
            go_roundw
            case rel => exact ⟨a + 1, Aq, pq, cq, L, Dn, by omega, by go_num, HBr, HQ, OQ, HLQ, Lib.hid (HP.out.pass HD.out)⟩
            case measure => simp [intOf]; omega
          | true =>
            rw [hd] at cx
            have HD := Lib.hid hd
            have R7o := blk_below R7.out HBr.out (by omega)
            have q70 := blk_cell R7o 0
            have q71 := blk_cell R7o 1
            simp only [List.getElem?_toArray, List.getElem?_cons_zero, List.getElem?_cons_succ] at q70 q71
            have hz7 : w2.heap.size < wo.heap.size := by omega
            clear hd R7o
            go_wp2_with fail
            refine (KR'.out a _ hlt HBr.out).mono ?_
            rintro e w5 ⟨S5, D, rfl, own5, hsh, hb5⟩
            have hP := HP.out.enter hsh
            have BB5 := Lib.hid (HBr.out.trans (hb5.mono HBr.out.size))
            have HQ5 := Lib.hid (blk_below HQ.out hb5 (by omega))
            have OQ5 := Lib.hid (OQ.out.keep hb5)
            have hS5 := (own5.base_ S5 rfl).1
            have OD5 := Lib.hid (own5.mono (base' := wa.heap.size + 1) (by omega))
            have HP5 := Lib.hid hP
            have hDl := hsh.len
            have HDL := Lib.hid (show D.length = n by omega)
            have HLO := Lib.hid hsh.lo
            clear hP own5 hsh hb5 cx q70 q71 hDl HBr HQ OQ HP
            go_wp2
            go_loopw [53] (fun i wr => ∃ (j : Nat) (Aq : Option Addr) (pq cq : Nat) (L : List E), j ≤ n ∧ i = .int .i64 j ∧ Hid (Below wa.heap.size wa wr) ∧ Hid (wr.heap[wa.heap.size]? = some (.cells #[.int .i64 n, .slice Aq pq cq] 32 (0, 0))) ∧ Hid (Own wr (wa.heap.size + 1) 37 3 ce (.slice Aq pq cq) L) ∧ Hid (L.length = pq) ∧ Hid (AbsP n ins (fun v => isD bts v || decide (v ∈ too)) (updD Dn a D) (a + 1) a j L) ∧ Hid (Own wr (wa.heap.size + 1) 3 1 ci (.slice (some ⟨S5, 0, none⟩) n n) D)) (fun i _ => n - (intOf i).toNat)
            case atStart => exact ⟨0, Aq, pq, cq, L, Nat.zero_le _, rfl, BB5, HQ5, OQ5, HLQ, HP5, OD5⟩
            case round =>
              clear BB5 HQ5 OQ5 HLQ HP5 OD5
              obtain ⟨j, A9, p9, c9, L9, hj, rfl, HBr, HQ, OQ, HLQ, HP, OD⟩ := hrel
              have zr := lt_of_block HQ.out
              by_cases hjl : j < n
              · obtain ⟨cj, _⟩ := own_atG false (mrk_len bts too n) (OTA.out.keep HBr.out) hjl
                rw [mrk_get hjl] at cj
                unfold cb at cj
                obtain ⟨dj, _⟩ := own_at1 HDL.out OD.out hjl
                have hdg : dg (updD Dn a D (a : Int)) (j : Int) = D.getD j 0 := by rw [updD_self, dg, Int.toNat_natCast]
                obtain ⟨x, hx⟩ : ∃ x, D.getD j 0 = x := ⟨_, rfl⟩
                rw [hx] at dj hdg
                have hskip := fun hno => HP.out.skip hno
                have hpush := fun h => HP.out.push HD.out hjl h
                rw [hdg] at hskip hpush
                have z5 : (j : Int) < (n : Int) := by omega
                have hSr : S < wr.heap.size := by omega
                have hS5r := (OD.out.base_ S5 rfl).2
                have HSK := Lib.hid hskip
                have HPU := Lib.hid hpush
                clear hskip hpush hdg hx
                by_cases hja : j = a
                · subst hja
                  have hsk := HSK.out (fun h => h.2.1 rfl)
                  have HSK2 := Lib.hid hsk
                  clear hsk HSK HPU
                  go_wp2
                  go_roundw
                  case rel => exact ⟨j + 1, A9, p9, c9, L9, by omega, by go_num, HBr, HQ, OQ, HLQ, HSK2, OD⟩
                  case measure => simp [intOf]; omega
                · have hne : ((j : Int) != (a : Int)) = true := by rw [bne_iff_ne]; omega
                  cases hd2 : (isD bts (j : Int) || decide ((j : Int) ∈ too)) with
                  | false =>
                    have hsk := HSK.out (fun h => by rw [hd2] at h; cases h.1)
                    have HSK2 := Lib.hid hsk
                    rw [hd2] at cj
                    clear hsk HSK HPU hd2
                    go_wp2
                    go_roundw
                    case rel => exact ⟨j + 1, A9, p9, c9, L9, by omega, by go_num, HBr, HQ, OQ, HLQ, HSK2, OD⟩
                    case measure => simp [intOf]; omega
                  | true =>
                    rw [hd2] at cj
                    by_cases hxf : x < 1099511627776
                    · have hpu := HPU.out hxf
                      have HPU2 := Lib.hid hpu
                      have hlen9 := HP.out.len
                      have hpl : p9 ≤ 4200 := by have := HLQ.out; omega
                      have h12 := blk_alloc HQ.out (.cells #[.int .i64 a, .int .i64 j, .int .i64 x] 37)
                      have q0 := blk_cell HQ.out 1
                      simp only [List.getElem?_toArray, List.getElem?_cons_zero, List.getElem?_cons_succ] at q0
                      have OQa := Lib.hid (OQ.out.alloc (.cells #[.int .i64 a, .int .i64 j, .int .i64 x] 37))
                      have H12 := Lib.hid h12
                      clear hpu HSK HPU hd2 hlen9 h12
                      go_wp2_with (at_builtin; refine wpList_push _ rfl (.tmp 72) (.tmp 77) _ rfl (wa.heap.size + 1) 37 i0 _ 3 24 ce Try.underlying30 hi hz0 hz1 hz2 rfl (by decide) _ _ p9 HLQ.out rfl OQa.out wr.heap.size 1 ((a : Int), (j : Int), x) rfl (news3' rfl) (fun _ _ => one_ce _ _) (by omega) (by omega) (by simp; omega) ?_; intro A3 c3 w8 hown8 hgw hat8; have hb12 := blk_grown H12.out hgw (OQa.out.ne_ H12.out (by decide)); have hc3 := blk_cell hb12 1; have hf3 := blk_free hb12 1; simp only [List.getElem?_toArray, List.getElem?_cons_zero, List.getElem?_cons_succ] at hc3)
                      have ODa := OD.out.alloc (.cells #[.int .i64 a, .int .i64 j, .int .i64 x] 37)
                      have OD8 := Lib.hid ((ODa.kept hgw (own_sep ODa OQa.out (by decide))).setCell (p := ⟨wa.heap.size, 1, none⟩) (by simp [Value.ownBlock]; omega) (.slice A3 (p9 + 1) c3))
                      have HB8 := Lib.hid (((HBr.out.alloc HBr.out.size (.cells #[.int .i64 a, .int .i64 j, .int .i64 x] 37)).grown hgw (by simp; omega) (fun g hg => by have := OQa.out.lo g hg; omega)).setCell (p := ⟨wa.heap.size, 1, none⟩) (by exact Nat.le_refl _) (.slice A3 (p9 + 1) c3))
                      have HQ8 := Lib.hid (blk_set hb12 1 (.slice A3 (p9 + 1) c3))
                      have OQ8 := Lib.hid (hown8.setCell (hown8.ne_ hb12 (by decide)) (.slice A3 (p9 + 1) c3) (p := ⟨wa.heap.size, 1, none⟩))
                      clear ODa hgw hat8 hown8 hb12 hc3 hf3 q0 cj dj
                      go_roundw
                      case rel => exact ⟨j + 1, A3, p9 + 1, c3, L9 ++ [((a : Int), (j : Int), x)], by omega, by go_num, HB8, HQ8, OQ8, Lib.hid (by rw [List.length_append, HLQ.out]; rfl), HPU2, OD8⟩
                      case measure => simp [intOf]; omega
                    · have hsk := HSK.out (fun h => hxf h.2.2)
                      have HSK2 := Lib.hid hsk
                      clear hsk HSK HPU hd2
                      go_wp2
                      go_roundw
                      case rel => exact ⟨j + 1, A9, p9, c9, L9, by omega, by go_num, HBr, HQ, OQ, HLQ, HSK2, OD⟩
                      case measure => simp [intOf]; omega
              · obtain rfl : j = n := by omega
                have hlv := HP.out.leave (by omega)
                have HLV := Lib.hid hlv
                clear hlv HP OD
                go_wp2
                go_roundw
                case rel => exact ⟨a + 1, A9, p9, c9, L9, updD Dn a D, by omega, by go_num, HBr, HQ, OQ, HLQ, HLV⟩
                case measure => simp [intOf]; omega
        · obtain rfl : a = n := by omega
          have hfin := HP.out.fin (bts := bts)
          have hlen9 := HP.out.len
          have hpl : pq ≤ 4200 := by have := HLQ.out; omega
          have hp5 : p5 ≤ 600 := by have := N5.out; have := HBL.out; omega
          have q0 := blk_cell HQ.out 1
          have R8o := blk_below R8.out HBr.out (by omega)
          have R6o := blk_below R6.out HBr.out (by omega)
          have q1 := blk_cell R8o 1
          simp only [List.getElem?_toArray, List.getElem?_cons_zero, List.getElem?_cons_succ] at q0 q1
          have hz8 : w2.heap.size + 1 < wo.heap.size := by omega
          have O5o := O5.out.keep HBr.out
          have sl5 := O5o.sl.2
          have hA5 : A5 = none → p5 = 0 ∧ c5 = 0 := by
            obtain ⟨A', c', hv, _, hnil⟩ := O5o.form
            injection hv with h1 h2 h3
            subst h1
            intro h
            have := hnil h
            omega
          have HFIN := Lib.hid hfin
          have HR6o := Lib.hid R6o
          have SL5 := Lib.hid sl5
          have HA5 := Lib.hid hA5
          clear hfin hlen9 R8o R6o O5o sl5 hA5 HP
          go_wp2_with (at_builtin; refine wpList_pushAll _ rfl (.tmp 83) (.tmp 85) _ rfl (wa.heap.size + 1) 37 i0 _ 3 24 ce Try.underlying30 hi hz0 hz1 hz2 rfl (by decide) _ _ pq HLQ.out rfl OQ.out _ A5 p5 c5 bts N5.out rfl HA5.out SL5.out (fun _ _ => one_ce _ _) (by omega) (by omega) (by omega) ?_; intro A3 c3 w8 hown8 hgw hat8; have hb12 := blk_grown HQ.out hgw (OQ.out.ne_ HQ.out (by decide)); have hc3 := blk_cell hb12 0; have hc4 := blk_cell hb12 1; have hf3 := blk_free hb12 1; have hb6 := blk_grown HR6o.out hgw (OQ.out.ne_ HR6o.out (by decide)); have hf60 := blk_free hb6 0; have hf61 := blk_free hb6 1; have hc60 := blk_cell hb6 0; have hc61 := blk_cell hb6 1; simp only [List.getElem?_toArray, List.getElem?_cons_zero, List.getElem?_cons_succ] at hc3 hc4 hc60 hc61)
          have b12 := blk_set hb12 1 (.slice A3 (pq + p5) c3)
          have b6 := blk_far hb6 (p := ⟨wa.heap.size, 1, none⟩) (by dsimp only; omega) (.slice A3 (pq + p5) c3)
          have b6' := blk_set b6 0 (.int .i64 a)
          have o8 := ((hown8.setCell (p := ⟨wa.heap.size, 1, none⟩) (hown8.ne_ hb12 (by decide)) (.slice A3 (pq + p5) c3)).setCell (p := ⟨w.heap.size + 1, 0, none⟩) (hown8.ne_ hb6 (by decide)) (.int .i64 a)).setCell (p := ⟨w.heap.size + 1, 1, none⟩) (hown8.ne_ hb6 (by decide)) (.slice A3 (pq + p5) c3)
          have hB8 := ((((HBA.out.trans (HBr.out.mono HBA.out.size)).grown hgw (by omega) (fun g hg => by have := OQ.out.lo g hg; omega)).setCell (p := ⟨wa.heap.size, 1, none⟩) (by dsimp only; omega) (.slice A3 (pq + p5) c3)).setCell (p := ⟨w.heap.size + 1, 0, none⟩) (by dsimp only; omega) (.int .i64 a)).setCell (p := ⟨w.heap.size + 1, 1, none⟩) (by dsimp only; omega) (.slice A3 (pq + p5) c3)
          refine bodyPost_ret (v := .agg #[.int .i64 a, .slice A3 (pq + p5) c3]) (by simp [results, Try.results58, go_sem, hc60, hc61]) rfl ⟨A3, pq + p5, c3, L ++ bts, rfl, by rw [List.length_append, HLQ.out, N5.out], by omega, o8.mono (by omega), Lib.hid ⟨Dn, HFIN.out⟩, hB8⟩
end Go.Proofs.Ytbgkkmcobijkgaa.Hier
