/- The walk of yen.K. -/
import Derived.Test.YtjebckehmmbkbaaVYenMem
import Derived.Deep.LoopGhost
import Derived.Deep.RegionHeld3
namespace Go.Proofs.Ytjebckehmmbkbaa.Yen
open Go.RowKit Go.Proofs.Ytjebckehmmbkbaa NetLaw BellLaw WalkLaw YenLaw YenOn Go.Proofs.Ytjebckehmmbkbaa.Net Go.Proofs.Ytjebckehmmbkbaa.Std
open Go.Proofs.Ytjebckehmmbkbaa.Heap (Kp Kp.refl Kp.below Kp.alloc Kp.drew Kp.setCell Kp.grown Kp.to fnOf)
open Go.Proofs.Ytjebckehmmbkbaa.HeapW
set_option linter.unusedSimpArgs false
set_option linter.unusedVariables false
theorem infoWayY : (Try.prog.info? 31).map (fun i => (i.zero, i.size, i.bytes)) = some (some (.agg #[.slice none 0 0, .int .i64 0]), 2, 32) := by kernel_rfl
/-- what K answers for a right question -/
def YenSays (n s t k : Nat) (l : List E) (w : World) (e : Ending) (w' : World) : Prop :=
  ∃ Ao co O, Hid (Own w' w.heap.size 31 2 cw (.slice Ao O.length co) O ∧ (∀ x ∈ O, Rd w' w.heap.size x ∧ x.2.1 = wt l x.2.2) ∧ Top n l s t k (O.map (·.2.2))) ∧ Hid (Below w.heap.size w w') ∧
    ((O = [] ∧ e = .returned (.tuple #[.slice none 0 0, .int .i64 5])) ∨ (O ≠ [] ∧ e = .returned (.tuple #[.slice Ao O.length co, .int .i64 0])))
theorem cd_one {n s t : Nat} {l : List E} {p : List Int} : Cd n l s t [(s : Int)] (· ∈ ([] : List Int)) p ↔ Smp n l s t p := by
  refine ⟨fun h => h.1, fun h => ⟨h, ?_⟩⟩
  obtain ⟨r, e⟩ := cons_of_head h.head
  exact ⟨r, by rw [e]; rfl, fun x _ hx => by cases hx⟩
theorem inv_start {n s t : Nat} {l : List E} {L : List (List Int)} (hs : ∀ p ∈ L, Smp n l s t p) (hl : ∀ p, Smp n l s t p → ∃ q ∈ L, leY l q p) : Inv n l s t [] L (fun _ => False) :=
  ⟨by simp, hs, fun b hb ⟨x, z, hz, _⟩ => (by cases hz), fun _ => hl, List.Pairwise.nil, fun p _ _ q hq => (by cases hq)⟩
theorem heap_mono {w : World} {b b' H n c : Nat} {fn : Value} {A : Option Addr} {L : List Pop} (h : HeapAt w b H fn A n c L) (hb : b' ≤ b) : HeapAt w b' H fn A n c L := ⟨Nat.le_trans hb h.hb, h.blk, h.own.mono hb, h.len⟩
theorem rd_mono {w : World} {b b' : Nat} {x : Pop} (h : Rd w b x) (hb : b' ≤ b) : Rd w b' x := Own.mono h hb

set_option maxRecDepth 100000 in
set_option maxHeartbeats 16000000 in
theorem k_yes (n s t k : Nat) (A : Option Addr) (c : Nat) (l : List E) (w : World) (hl : Sl w w.heap.size 3 ce A l) (hx : Dijk.look n l [(s : Int), (t : Int)] = 0) (hk1 : 1 ≤ k) (hk8 : k ≤ 8) :
    Calls Try.prog 8 #[.agg #[.int .i64 n, .slice A l.length c], .int .i64 s, .int .i64 t, .int .i64 k] w fun e w' => YenSays n s t k l w e w' := by
  obtain ⟨i0, hi, hz0, hz1, hz2⟩ := info_parts infoWayY
  obtain ⟨j0, hji, hy0, hy1, hy2⟩ := info_parts infoIntY
  obtain ⟨hg, hc1, ⟨s0, s1⟩, t0, t1⟩ := DijkWay.looks_zero hx
  have hn64 := hg.hi
  have hlen := hg.len
  have hsn : s < n := by omega
  have htn : t < n := by omega
  have hcl : ∀ W, Below w.heap.size w W → Sl W W.heap.size 3 ce A l := fun W hW => (hl.keep hW (Nat.le_refl _)).more hW.size
  have hw0 : Below w.heap.size w (w.alloc (.cells #[.int .i64 n, .slice A l.length c] 24)) := (Below.refl _ _).alloc (Nat.le_refl _) _
  have hw1 := hw0.alloc (by simp) (.cells #[.int .i64 s, .int .i64 t] 3)
  have hbx := blk_alloc (heap_alloc_new w (.cells #[.int .i64 n, .slice A l.length c] 24)) (.cells #[.int .i64 s, .int .i64 t] 3)
  have klk := Dijk.look_any n A c l (some ⟨w.heap.size + 1, 0, none⟩) 2 2 [(s : Int), (t : Int)] _ (hcl _ hw1) (sl_new' (by decide) (w.alloc (.cells #[.int .i64 n, .slice A l.length c] 24)) #[.int .i64 s, .int .i64 t] 3 [(s : Int), (t : Int)] (by simp) rfl) rfl (by omega) (by decide)
  rw [hx] at klk
  have KLK := Lib.hid klk
  have HCL := Lib.hid hcl
  have HG := Lib.hid hg
  have HC1 := Lib.hid hc1
  have HBX := Lib.hid hbx
  have q0 := blk_cell hbx 0
  have q1 := blk_cell hbx 1
  simp only [List.getElem?_toArray, List.getElem?_cons_zero, List.getElem?_cons_succ] at q0 q1
  have HW1 := Lib.hid hw1
  clear klk hcl hg hc1 hbx hl hx hw0 hw1 s0 s1 t0 t1 q0 q1
  go_enter Try.func8, Try.ntmps8
  go_wp2_with fail
  refine KLK.out.mono ?_
  rintro e w1 ⟨rfl, hb1⟩
  have hB1 := HW1.out.trans (hb1.mono HW1.out.size)
  have hbx1 := blk_below HBX.out hb1 (lt_of_block HBX.out)
  have HB1 := Lib.hid hB1
  have HBX1 := Lib.hid hbx1
  clear hB1 hbx1 hb1 HW1 HBX KLK
  have hkk : ¬ (k : Int) < 1 := by omega
  have hkk8 : ¬ (k : Int) > 8 := by omega
  go_wp2_with fail
  refine (new_any 16 w1).mono ?_
  rintro e w2 ⟨H, rfl, hh2, hb2⟩
  clear hkk hkk8
  have hB2 := HB1.out.trans (hb2.mono HB1.out.size)
  have hbx2 := blk_below HBX1.out hb2 (lt_of_block HBX1.out)
  have hkm := (⟨heap_mono hh2 HB1.out.size, HeapLaw.Hp.nil, Own.nil_, rfl, by simp, by simp, by simp, by simp, fun g e => (nomatch (show (none : Option Nat) = some g from e)), hB2, hbx2⟩ : KM w w2 n A c H l none 0 0 [] none 0 0 [])
  have hz2' : w.heap.size < w2.heap.size := by have := lt_of_block hbx2; omega
  have hkm3 := hkm.keep ((Below.refl _ _).alloc (Nat.le_refl _) (.cells #[.int .i64 s] 3))
  have kon := onward_any n s t A c l (some ⟨w2.heap.size, 0, none⟩) 0 1 [] s none 0 0 [] (w2.alloc (.cells #[.int .i64 s] 3)) (HCL.out _ hkm3.lo) (sl_new' (by decide) w2 #[.int .i64 s] 3 [(s : Int)] rfl rfl) rfl (Nat.le_refl _) Sl.nil rfl (by omega) HG.out HC1.out htn rfl (by simp) (fun v hv => by simp at hv; omega) rfl
  have q0 := blk_cell hbx2 0
  have q1 := blk_cell hbx2 1
  simp only [List.getElem?_toArray, List.getElem?_cons_zero, List.getElem?_cons_succ] at q0 q1
  have KON := Lib.hid kon
  have HKM := Lib.hid hkm3
  have hzz : w.heap.size < (w2.alloc (.cells #[.int .i64 s] 3)).heap.size := by simp; omega
  clear kon hkm hkm3 hB2 hbx2 hb2 hh2 HB1 HBX1
  go_upto_region 7 with fail
  go_cut [12, 13] from 38 to 45 (fun s12 s13 wx => ∃ (Z : Nat) (ok : Bool) (Ap : Option Addr) (kp cp : Nat) (wp : Int) (p : List Int), s12 = .pointer (some ⟨Z, 0, none⟩) ∧ s13 = .bool ok ∧ Hid (KM w wx n A c H l none 0 0 [] none 0 0 []) ∧ Hid (wx.heap[Z]? = some (.cells #[.slice Ap kp cp, .int .i64 wp] 31 (0, 0))) ∧ Hid (ok = true → Rd wx w.heap.size ((Ap, kp, cp), wp, p) ∧ wp = wt l p ∧ Cd n l s t [(s : Int)] (· ∈ ([] : List Int)) p ∧ ∀ q, Cd n l s t [(s : Int)] (· ∈ ([] : List Int)) q → leY l p q) ∧ Hid (ok = false → ∀ q, ¬ Cd n l s t [(s : Int)] (· ∈ ([] : List Int)) q))
  case first =>
    go_wp2_with fail
    refine KON.out.mono ?_
    rintro e w4 ⟨hb4, hcase⟩
    have hkm4 := HKM.out.keep hb4
    rcases hcase with ⟨Ap, cp, p, rfl, ownp, HP⟩ | ⟨rfl, HP⟩
    · have hkm5 := hkm4.keep ((Below.refl _ _).alloc (Nat.le_refl _) (.cells #[.slice Ap p.length cp, .int .i64 (wt l p)] 31))
      have hrd : Rd (w4.alloc (.cells #[.slice Ap p.length cp, .int .i64 (wt l p)] 31)) w.heap.size ((Ap, p.length, cp), wt l p, p) := Own.alloc (ownp.mono (by omega)) _
      have hbx5 := heap_alloc_new w4 (.cells #[.slice Ap p.length cp, .int .i64 (wt l p)] 31)
      have HKM5 := Lib.hid hkm5
      have HRD := Lib.hid hrd
      have HBX5 := Lib.hid hbx5
      clear hkm5 hrd hbx5 hkm4 hb4 ownp KON HKM q0 q1 hzz
      go_wp2
      go_meet
      exact ⟨_, true, Ap, p.length, cp, wt l p, p, rfl, rfl, HKM5, HBX5, Lib.hid fun _ => ⟨HRD.out, rfl, HP.out⟩, Lib.hid fun h => (nomatch h)⟩
    · have hkm5 := hkm4.keep ((Below.refl _ _).alloc (Nat.le_refl _) (.cells #[.slice none 0 0, .int .i64 0] 31))
      have hbx5 := heap_alloc_new w4 (.cells #[.slice none 0 0, .int .i64 0] 31)
      have HKM5 := Lib.hid hkm5
      have HBX5 := Lib.hid hbx5
      clear hkm5 hbx5 hkm4 hb4 KON HKM q0 q1 hzz
      go_wp2
      go_meet
      exact ⟨_, false, none, 0, 0, 0, [], rfl, rfl, HKM5, HBX5, Lib.hid fun h => (nomatch h), Lib.hid fun _ => HP.out⟩
  case rest =>
  obtain ⟨Z, ok, Ap, kp, cp, wp, p, rfl, rfl, HKM5, HBX5, HYES, HNO⟩ := hcut
  clear KON HKM q0 q1 hzz
  go_upto_if 46 with fail
  go_cut [] from 47 to 49 (fun wx => ∃ (Ah : Option Addr) (m ch : Nat) (L : List Pop), m ≤ 1 ∧ Hid (KM w wx n A c H l Ah m ch L none 0 0 []) ∧ Hid (Inv n l s t [] (L.map (·.2.2)) (fun _ => False)))
  case first =>
    cases ok with
    | true =>
      obtain ⟨hrd, hwp, hcd, hle⟩ := HYES.out (by first | rfl | trivial)
      have kps := push_any ltP ltP_ord less_any w.heap.size H none 0 0 [] (Ap, kp, cp) wp p _ HKM5.out.heap HKM5.out.hp (by omega) HKM5.out.lo.size (fun z hz => by rw [List.mem_singleton] at hz; subst hz; exact hrd)
      have KPS := Lib.hid kps
      have HRD := Lib.hid hrd
      have HCD := Lib.hid (And.intro hcd hle)
      have HWP := Lib.hid hwp
      have z0 := blk_cell HBX5.out 0
      have z1 := blk_cell HBX5.out 1
      simp only [List.getElem?_toArray, List.getElem?_cons_zero, List.getElem?_cons_succ] at z0 z1
      clear kps hrd hcd hle hwp
      go_wp2_with fail
      refine KPS.out.mono ?_
      rintro e w6 ⟨⟨v, rfl⟩, A6, c6, L6, hh6, hpm6, hhp6, hkp6, hrw6⟩
      have hkm6 := HKM5.out.kp hkp6 hh6 hhp6 (fun x hx => .inr (by
        have := hpm6.mem_iff.1 hx
        rw [List.mem_singleton] at this
        subst this
        exact ⟨rd_kp HKM5.out.heap hkp6 HRD.out, HWP.out⟩)) (fun S hS => by rw [← ob_ A6 (0 + 1) c6] at hS; rcases hrw6 S hS with h | h; exact .inl (by rw [← ob_ none 0 0]; exact h); exact .inr h)
      have hinv : Inv n l s t [] (L6.map (·.2.2)) (fun _ => False) := by
        refine inv_start (fun q hq => ?_) (fun q hq => ⟨p, ?_, ?_⟩)
        · obtain ⟨x, hx, rfl⟩ := List.mem_map.1 hq
          have := hpm6.mem_iff.1 hx
          rw [List.mem_singleton] at this
          subst this
          exact HCD.out.1.1
        · exact List.mem_map.2 ⟨((Ap, kp, cp), wp, p), hpm6.mem_iff.2 (by simp), rfl⟩
        · exact HCD.out.2 q (cd_one.2 hq)
      have HKM6 := Lib.hid hkm6
      have HINV := Lib.hid hinv
      clear hkm6 hinv hh6 hpm6 hhp6 hkp6 hrw6 z0 z1
      go_wp2
      go_meet
      exact ⟨A6, 0 + 1, c6, L6, by omega, HKM6, HINV⟩
    | false =>
      have hinv : Inv n l s t [] (([] : List Pop).map (·.2.2)) (fun _ => False) := inv_start (by simp) (fun q hq => absurd (cd_one.2 hq) (HNO.out (by first | rfl | trivial) q))
      have HINV := Lib.hid hinv
      clear hinv
      go_wp2
      go_meet
      exact ⟨none, 0, 0, [], by omega, HKM5, HINV⟩
  case rest =>
    obtain ⟨Ah, m, ch, L, hm1, HKM1, HINV1⟩ := hcut
    clear HKM5 HBX5 HYES HNO
    go_wp2
    go_loopg [14] (65 * k + 1) (fun g s14 wy => ∃ (Ah : Option Addr) (m ch : Nat) (L : List Pop) (Ao : Option Addr) (mo co : Nat) (O : List Pop), s14 = .slice Ao mo co ∧ Hid (KM w wy n A c H l Ah m ch L Ao mo co O) ∧ Hid (Inv n l s t (O.map (·.2.2)) (L.map (·.2.2)) (fun _ => False)) ∧ mo ≤ k ∧ 65 * (k - mo) + m ≤ g ∧ g ≤ 65 * k + 1)
    case atStart => exact ⟨Ah, m, ch, L, none, 0, 0, [], rfl, HKM1, HINV1, Nat.zero_le _, by omega, Nat.le_refl _⟩
    case round =>
      clear HKM1 HINV1 hm1
      obtain ⟨Ah, m, ch, L, Ao, mo, co, O, rfl, HK, HI, hmo, hgh, hgb⟩ := hrel
      rename World => wo
      have klen := len_any wo HK.out.heap
      have hLm := HK.out.heap.len
      have hOl := HK.out.olen
      have KLEN := Lib.hid klen
      have HLM := Lib.hid hLm
      have HOL := Lib.hid hOl
      clear klen hLm hOl
      have hfin : (m = 0 ∨ mo = k) → YenSays n s t k l w (.returned (if mo = 0 then .tuple #[.slice none 0 0, .int .i64 5] else .tuple #[.slice Ao mo co, .int .i64 0])) wo := fun hex => by
        have htop : Top n l s t k (O.map (·.2.2)) := HI.out.top (by rw [List.length_map, HOL.out]; exact hmo) (hex.elim (fun h => .inr (by have := List.eq_nil_of_length_eq_zero (HLM.out.trans h); rw [this]; rfl)) (fun h => .inl (by rw [List.length_map, HOL.out]; exact h)))
        have ho := HK.out.out
        rw [← HOL.out] at ho
        refine ⟨Ao, co, O, Lib.hid ⟨ho, fun x hx => ⟨HK.out.rdO x hx, HK.out.ctO x hx⟩, htop⟩, Lib.hid HK.out.lo, ?_⟩
        by_cases h0 : mo = 0
        · rw [if_pos h0]
          exact .inl ⟨List.eq_nil_of_length_eq_zero (HOL.out.trans h0), rfl⟩
        · rw [if_neg h0]
          exact .inr ⟨fun e => h0 (by rw [← HOL.out, e]; rfl), by rw [HOL.out]⟩
      have HFIN := Lib.hid hfin
      clear hfin
      by_cases hm0 : m = 0
      · subst hm0
        have hpost := HFIN.out (.inl rfl)
        clear HFIN hgh
        by_cases h0 : mo = 0
        · subst h0
          rw [if_pos rfl] at hpost
          have HPOST := Lib.hid hpost
          clear hpost
          go_wp2_with fail
          refine KLEN.out.mono ?_
          rintro e w5 ⟨rfl, hw5⟩
          subst hw5
          go_wp2
          go_ret2
          exact HPOST.out
        · rw [if_neg h0] at hpost
          have HPOST := Lib.hid hpost
          have h0' : ((mo : Int) == 0) = false := beq_eq_false_iff_ne.2 (by omega)
          clear hpost h0
          go_wp2_with fail
          refine KLEN.out.mono ?_
          rintro e w5 ⟨rfl, hw5⟩
          subst hw5
          go_wp2
          go_ret2
          exact HPOST.out
      · obtain ⟨m', rfl⟩ : ∃ m', m = m' + 1 := ⟨m - 1, by omega⟩
        by_cases hmk : mo = k
        · have hpost := HFIN.out (.inr hmk)
          rw [if_neg (by omega)] at hpost
          have HPOST := Lib.hid hpost
          have h0' : ((mo : Int) == 0) = false := beq_eq_false_iff_ne.2 (by omega)
          have h1' : ¬ (mo : Int) < (k : Int) := by omega
          have h2' : ((m' + 1 : Nat) : Int) > 0 := by omega
          clear hpost hmk hgh HFIN hm0
          go_wp2_with fail
          refine KLEN.out.mono ?_
          rintro e w5 ⟨rfl, hw5⟩
          subst hw5
          go_wp2
          go_ret2
          exact HPOST.out
        · have kpop := pop_any ltP ltP_ord less_any w.heap.size H Ah m' ch L wo HK.out.heap HK.out.hp (by omega) HK.out.lo.size HK.out.rdL
          have KPOP := Lib.hid kpop
          have h1' : (mo : Int) < (k : Int) := by omega
          have h2' : ((m' + 1 : Nat) : Int) > 0 := by omega
          have hm'b : m' ≤ 600 := by omega
          clear kpop HFIN hm0
          go_wp2_with fail
          refine KLEN.out.mono ?_
          rintro e w5 ⟨rfl, hw5⟩
          subst hw5
          go_wp2_with fail
          refine KPOP.out.mono ?_
          rintro e w6 ⟨p, pm, q, L2, rfl, hg2, hh2, hpm2, hhp2, hkp2⟩
          clear h1' h2' KLEN KPOP
          have hxL := hpm2.mem_iff.1 (List.mem_cons_self (a := ((p, pm, q) : Pop)) (l := L2))
          have hrd6 := rd_kp HK.out.heap hkp2 (HK.out.rdL _ hxL)
          have hcq : pm = wt l q := HK.out.ctL _ hxL
          have hsq : Smp n l s t q := HI.out.sl q (List.mem_map.2 ⟨_, hxL, rfl⟩)
          have hkm6 := HK.out.kp hkp2 hh2 hhp2 (fun x hx => .inl (hpm2.mem_iff.1 (List.mem_cons_of_mem _ hx))) (fun S hS => .inl hS)
          have hpmap : (q :: L2.map (·.2.2)).Perm (L.map (·.2.2)) := hpm2.map (fun x : Pop => x.2.2)
          have hmin : ∀ z ∈ L.map (·.2.2), leY l q z := fun z hz => by
            obtain ⟨y, hy, rfl⟩ := List.mem_map.1 hz
            have h1 := HK.out.hp.top_mem ltP_ord y hy
            rw [hg2] at h1
            have h2 := HK.out.ctL y hy
            unfold ltP at h1
            simp only at h1
            rw [h2, hcq] at h1
            rcases ltY_not h1 with h3 | h3
            · injection h3 with _ h3; exact .inl h3.symm
            · exact .inr h3
          obtain ⟨Aq, kq, cq⟩ := p
          have hkq : q.length = kq := (Own.sl hrd6).1.symm
          have hkc : kq ≤ cq := by
            have hown : Own w6 w.heap.size 3 1 ci (.slice Aq kq cq) q := hrd6
            obtain ⟨A', c', he, hc, _⟩ := hown.form
            injection he with _ e1 e2
            omega
          have hk64 : kq ≤ 64 := by have := hsq.len; omega
          have hkm7 := hkm6.keep ((Below.refl _ _).alloc (Nat.le_refl _) (.cells #[.slice Aq kq cq, .int .i64 pm] 31))
          have hkb7 := KB.new hkm6 #[.slice Aq kq cq, .int .i64 pm]
          have hrd7 := hrd6.keep ((Below.refl _ _).alloc (Nat.le_refl _) (.cells #[.slice Aq kq cq, .int .i64 pm] 31))
          have hsk := HI.out.skip hpmap
          have htk := HI.out.take hpmap hmin
          have HSK := Lib.hid hsk
          have HTK := Lib.hid htk
          have HSQ := Lib.hid hsq
          have HCQ := Lib.hid hcq
          have HKQ := Lib.hid hkq
          clear hxL hrd6 hcq hsq hkm6 hpmap hmin hkq hsk htk hg2 hh2 hpm2 hhp2 hkp2 HK HI HLM
          go_upto_region 13 with fail
          generalize w6.alloc (.cells #[.slice Aq kq cq, .int .i64 pm] 31) = w7 at hkm7 hkb7 hrd7 ⊢
          generalize w6.heap.size = BW at hkb7 ⊢
          obtain ⟨bq, hbq⟩ : ∃ bq, decide (q ∈ O.map (·.2.2)) = bq := ⟨_, rfl⟩
          have kct := YenF.contains_same BW kq cq Aq q pm Ao mo co O w7 hkm7.row HOL.out hkb7.box (Own.sl hrd7).2 HKQ.out (by omega) bq hbq
          unfold YenF.fnS at kct
          have KCT := Lib.hid kct
          have HKM7 := Lib.hid hkm7
          have HKB7 := Lib.hid hkb7
          have HRD7 := Lib.hid hrd7
          have HBQ := Lib.hid hbq
          clear kct hkm7 hkb7 hrd7 hbq
          go_wp2_with fail
          refine KCT.out.mono ?_
          rintro e w8 ⟨rfl, hb8⟩
          have hkm8 := HKM7.out.keep hb8
          have hkb8 := HKB7.out.keep hb8
          have hrd8 := HRD7.out.keep hb8
          clear hb8 KCT HKM7 HKB7 HRD7
          cases bq with
          | true =>
            have hinv := HSK.out (of_decide_eq_true HBQ.out)
            have HKM8 := Lib.hid hkm8
            have HINV := Lib.hid hinv
            clear hinv hkm8 hkb8 hrd8 HTK
            go_wp2
            go_roundg (65 * (k - mo) + m')
            case measure => omega
            case rel => exact ⟨Ah, m', ch, L2, Ao, mo, co, O, rfl, HKM8, HINV, hmo, Nat.le_refl _, by omega⟩
          | false =>
            have hinv := HTK.out (of_decide_eq_false HBQ.out)
            have z0 := blk_cell hkb8.box 0
            have z1 := blk_cell hkb8.box 1
            simp only [List.getElem?_toArray, List.getElem?_cons_zero, List.getElem?_cons_succ] at z0 z1
            have hkm9 := hkm8.keep ((Below.refl _ _).alloc (Nat.le_refl _) (.cells #[.slice Aq kq cq, .int .i64 pm] 31))
            have hkb9 := hkb8.keep ((Below.refl _ _).alloc (Nat.le_refl _) (.cells #[.slice Aq kq cq, .int .i64 pm] 31))
            have hrd9 := hrd8.keep ((Below.refl _ _).alloc (Nat.le_refl _) (.cells #[.slice Aq kq cq, .int .i64 pm] 31))
            have HKM9 := Lib.hid hkm9
            have HKB9 := Lib.hid hkb9
            have HRD9 := Lib.hid hrd9
            have HINV := Lib.hid hinv
            have hsz := hkm9.lo.size
            clear hkm9 hkb9 hrd9 hkm8 hkb8 hrd8 hinv HSK HTK HBQ
            go_upto_region 14 with fail
            go_wp2_with (at_builtin; refine wpList_push _ rfl (.tmp 64) (.tmp 66) _ rfl w.heap.size 31 i0 _ 2 32 cw Try.underlying36 hi hz0 hz1 hz2 rfl (by decide) _ O mo HOL.out rfl HKM9.out.out w8.heap.size 1 ((Aq, kq, cq), pm, q) rfl (newsW (x := (Aq, kq, cq)) (y := pm) (p := q) rfl) (fun _ _ => one_cw _ _) (by omega) (by omega) hsz ?_; intro A3 c3 w9 hown3 hg3 hat3; have hkm10 := HKM9.out.told hg3 hown3 hat3 HRD9.out HCQ.out; have hkb10 := HKB9.out.told hg3 hat3; have hrd10 : Rd w9 w.heap.size ((Aq, kq, cq), pm, q) := hkm10.rdO _ (by simp); have y0 := blk_cell hkb10.box 0; simp only [List.getElem?_toArray, List.getElem?_cons_zero, List.getElem?_cons_succ] at y0)
            obtain ⟨O3, hO3⟩ : ∃ O3, O ++ [(((Aq, kq, cq), pm, q) : Pop)] = O3 := ⟨_, rfl⟩
            have hmap3 : O3.map (·.2.2) = O.map (·.2.2) ++ [q] := by rw [← hO3, List.map_append]; rfl
            have hinv10 := HINV.out
            rw [← hmap3] at hinv10
            rw [hO3] at hkm10
            have HKM10 := Lib.hid hkm10
            have HKB10 := Lib.hid hkb10
            have HRD10 := Lib.hid hrd10
            have HINV10 := Lib.hid hinv10
            have hol3 : O3.length = mo + 1 := hkm10.olen
            have HOL3 := Lib.hid hol3
            have hq1 : 1 ≤ kq := by have := HSQ.out.len; have := HKQ.out; omega
            clear hO3 hmap3 hinv10 hkm10 hkb10 hrd10 hol3 hown3 hg3 hat3 HINV HKM9 HKB9 HRD9 HOL z0 z1 hsz y0
            go_wp2
            go_loopw [16] (fun i16 wy => ∃ (i : Nat) (Ah : Option Addr) (m2 ch : Nat) (L3 : List Pop), 1 ≤ i ∧ i ≤ kq ∧ i16 = .int .i64 i ∧ Hid (KM w wy n A c H l Ah m2 ch L3 A3 (mo + 1) c3 O3) ∧ Hid (KB wy BW #[.slice Aq kq cq, .int .i64 pm] Ah A3) ∧ Hid (Inv n l s t (O3.map (·.2.2)) (L3.map (·.2.2)) (bad q i)) ∧ Hid (Rd wy w.heap.size ((Aq, kq, cq), pm, q)) ∧ m2 + 1 ≤ m' + i) (fun i16 _ => kq - (intOf i16).toNat)
            case atStart => exact ⟨1, Ah, m', ch, L2, Nat.le_refl _, hq1, rfl, HKM10, HKB10, HINV10, HRD10, by omega⟩
            case round =>
              clear HKM10 HKB10 HRD10 HINV10
              obtain ⟨i, Ah2, m2, ch2, L3, hi1, hik, rfl, HK2, HB2, HI2, HR2, hm2⟩ := hrel
              rename World => wp2
              have y0 := blk_cell HB2.out.box 0
              simp only [List.getElem?_toArray, List.getElem?_cons_zero, List.getElem?_cons_succ] at y0
              by_cases hlt : i < kq
              · obtain ⟨kb, rfl⟩ : ∃ kb, i = kb + 1 := ⟨i - 1, by omega⟩
                have hcq0 : ((kb : Int) + 1) ≤ (cq : Int) := by omega
                have hwr0 : Own wp2 wp2.heap.size 3 1 ci (.slice none 0 0) ([] : List Int) := Own.nil_
                have HNT0 := Lib.hid hwr0
                obtain ⟨qi, hqi⟩ : ∃ qi, q.take (kb + 1) = qi := ⟨_, rfl⟩
                have hqil : qi.length = kb + 1 := by rw [← hqi, List.length_take, HKQ.out]; omega
                have hslq : ∀ W, Below wp2.heap.size wp2 W → Sl W W.heap.size 1 ci Aq qi := fun W hW => by
                  rw [← hqi]
                  exact sl_take (((Own.sl HR2.out).2.keep hW (Nat.le_refl _)).more hW.size) _
                have HQI := Lib.hid hqi
                have HQL := Lib.hid hqil
                have HSLQ := Lib.hid hslq
                clear hwr0 hqi hqil hslq
                go_wp2
                clear y0
                go_loopw [81, 18] (fun jj ss wy => ∃ (j : Nat) (An : Option Addr) (kn cn : Nat) (nt : List Int), j ≤ mo + 1 ∧ jj = .int .i64 j ∧ ss = .slice An kn cn ∧ Hid (Own wy wp2.heap.size 3 1 ci (.slice An kn cn) nt) ∧ Hid (nt = ntL (kb + 1) qi ((O3.map (·.2.2)).take j)) ∧ Hid (nt.length = kn) ∧ kn ≤ j ∧ Hid (Below wp2.heap.size wp2 wy)) (fun jj _ _ => mo + 1 - (intOf jj).toNat)
                case atStart => exact ⟨0, none, 0, 0, [], Nat.zero_le _, rfl, rfl, HNT0, Lib.hid rfl, Lib.hid rfl, Nat.le_refl _, Lib.hid (Below.refl _ _)⟩
                case round =>
                  clear HNT0
                  obtain ⟨j, An, kn, cn, nt, hj, rfl, rfl, HNT, HNE, HNL, hkn, HLW⟩ := hrel
                  by_cases hjl : j < mo + 1
                  · have hjo : j < O3.length := by rw [HOL3.out]; exact hjl
                    obtain ⟨b, off, x, xm, pz, rfl, hb, he, cx, cm, hp, hpl, hpc⟩ := (HK2.out.row.keep HLW.out).at_ hjo
                    have hrz := HK2.out.rdO _ (List.getElem_mem hjo)
                    rw [he] at hrz
                    obtain ⟨Az, kz, cz⟩ := x
                    have hown : Own wp2 w.heap.size 3 1 ci (.slice Az kz cz) pz := hrz
                    have hzc : kz ≤ cz := by
                      obtain ⟨A', c', he', hc, _⟩ := hown.form
                      injection he' with _ e1 e2
                      omega
                    have hjm : j < (O3.map (·.2.2)).length := by rw [List.length_map]; exact hjo
                    have hsu := ntL_succ (kb + 1) qi (O3.map (·.2.2)) j hjm
                    have hgz : (O3.map (·.2.2))[j] = pz := by rw [List.getElem_map, he]
                    rw [hgz] at hsu
                    have HSU := Lib.hid hsu
                    have hbx := heap_alloc_new wr (.cells #[.slice Az kz cz, .int .i64 xm] 31)
                    have hlx := HLW.out.alloc HLW.out.size (.cells #[.slice Az kz cz, .int .i64 xm] 31)
                    have hnx := HNT.out.alloc (.cells #[.slice Az kz cz, .int .i64 xm] 31)
                    have hownx := hown.keep hlx
                    simp only at cx hpl hpc
                    clear hrz hown hjm hsu hgz he hp
                    go_upto_region 23 with fail
                    generalize wr.alloc (.cells #[.slice Az kz cz, .int .i64 xm] 31) = wx at hbx hlx hnx hownx ⊢
                    generalize wr.heap.size = XE at hbx ⊢
                    have x0 := blk_cell hbx 0
                    simp only [List.getElem?_toArray, List.getElem?_cons_zero, List.getElem?_cons_succ] at x0
                    have HLX := Lib.hid hlx
                    have HNX := Lib.hid hnx
                    have HOX := Lib.hid hownx
                    have HBX2 := Lib.hid hbx
                    have HPL := Lib.hid hpl
                    clear hbx hlx hnx hownx cx cm hpl HNT HLW
                    by_cases hz : kb + 1 < kz
                    · have hzi : ((kz : Int) > ((kb : Int) + 1)) := by omega
                      have hzc2 : ((kb : Int) + 1) ≤ (cz : Int) := by omega
                      obtain ⟨eb, heb⟩ : ∃ eb, decide (pz.take (kb + 1) = qi) = eb := ⟨_, rfl⟩
                      have keq := equal_int' Az Aq (kb + 1) (kb + 1) cz cq (pz.take (kb + 1)) qi _ _ wx (sl_take HOX.out.sl.2 _) (HSLQ.out wx HLX.out) (by rw [List.length_take, HPL.out]; omega) HQL.out (by omega) eb heb
                      have KEQ := Lib.hid keq
                      have HEB := Lib.hid heb
                      clear keq heb
                      go_wp2_with fail
                      refine KEQ.out.mono ?_
                      rintro e w11 ⟨rfl, kk, hkk⟩
                      subst hkk
                      have hlx := below_drewN HLX.out kk
                      have hnx := HNX.out.drewN kk
                      have hox := HOX.out.drewN kk
                      have hbx : (wx.drewN kk).heap[XE]? = _ := HBX2.out
                      generalize wx.drewN kk = wk at hlx hnx hox hbx ⊢
                      have HLK := Lib.hid hlx
                      have HNK := Lib.hid hnx
                      clear hlx hnx KEQ x0
                      cases eb with
                      | true =>
                        obtain ⟨bz, oz, hAz, hbz, hzz2⟩ := hox.sl.2.atI (k := kb + 1) (by rw [HPL.out]; exact hz)
                        have hst : ntL (kb + 1) qi ((O3.map (·.2.2)).take (j + 1)) = nt ++ [pz[kb + 1]'(by rw [HPL.out]; exact hz)] := by
                          rw [HSU.out, if_pos ⟨by rw [HPL.out]; exact hz, of_decide_eq_true HEB.out⟩, ← HNE.out, List.getD_eq_getElem?_getD, List.getElem?_eq_getElem (by rw [HPL.out]; exact hz)]
                          rfl
                        generalize pz[kb + 1]'(by rw [HPL.out]; exact hz) = vz at hzz2 hst
                        have HST := Lib.hid hst
                        have x0 := blk_cell hbx 0
                        simp only [List.getElem?_toArray, List.getElem?_cons_zero, List.getElem?_cons_succ] at x0
                        subst hAz
                        have hz3 : ((kb : Int) + 1) < (kz : Int) := by omega
                        have hkn2 : kn ≤ 100 := by omega
                        have hsz := HLK.out.size
                        clear hst hbx hox hbz hz hzi hzc2
                        go_wp2_with (at_builtin; refine wpList_push _ rfl (.tmp 98) (.tmp 104) _ rfl wp2.heap.size 3 j0 _ 1 8 ci Try.underlying29 hji hy0 hy1 hy2 rfl (by decide) _ nt kn HNL.out rfl (HNK.out.alloc _) wk.heap.size 1 vz rfl (news1' rfl) (fun _ _ => one_ci _ _) (by omega) (by omega) (by simp; omega) ?_; intro A8 c8 w13 hown8 hg8 hat8)
                        have hl8 : Below wp2.heap.size wp2 w13 := (HLK.out.alloc HLK.out.size _).grown hg8 (by have := HLK.out.size; simp; omega) (fun kx hkx => HNK.out.lo kx hkx)
                        have HL8 := Lib.hid hl8
                        have HO8 := Lib.hid hown8
                        clear hl8 hown8 hg8 hat8 x0
                        go_wp2
                        go_roundw
                        case rel => exact ⟨j + 1, A8, kn + 1, c8, nt ++ [vz], by omega, by go_num, rfl, HO8, Lib.hid HST.out.symm, Lib.hid (by rw [List.length_append, HNL.out]; rfl), by omega, HL8⟩
                        case measure => simp [intOf]; omega
                      | false =>
                        have hst : nt = ntL (kb + 1) qi ((O3.map (·.2.2)).take (j + 1)) := by
                          rw [HSU.out, if_neg (fun h => of_decide_eq_false HEB.out h.2), List.append_nil]
                          exact HNE.out
                        have HST := Lib.hid hst
                        clear hst hbx hox
                        go_wp2
                        go_roundw
                        case rel => exact ⟨j + 1, An, kn, cn, nt, by omega, by go_num, rfl, HNK, HST, HNL, by omega, HLK⟩
                        case measure => simp [intOf]; omega
                    · have hzi : ¬ ((kz : Int) > ((kb : Int) + 1)) := by omega
                      have hst : nt = ntL (kb + 1) qi ((O3.map (·.2.2)).take (j + 1)) := by
                        rw [HSU.out, if_neg (fun h => hz (by rw [← HPL.out]; exact h.1)), List.append_nil]
                        exact HNE.out
                      have HST := Lib.hid hst
                      clear hst
                      go_wp2
                      go_roundw
                      case rel => exact ⟨j + 1, An, kn, cn, nt, by omega, by go_num, rfl, HNX, HST, HNL, by omega, HLX⟩
                      case measure => simp [intOf]; omega
                  · obtain rfl : mo + 1 = j := by omega
                    have hne := HNE.out
                    rw [List.take_of_length_le (by rw [List.length_map, HOL3.out]; exact Nat.le_refl _)] at hne
                    have hnts : (fun x => x ∈ nt) = nots (O3.map (·.2.2)) qi := by rw [hne]; exact ntL_nots (kb + 1) qi HQL.out (O3.map (·.2.2))
                    obtain ⟨a, ea, el, ehd, end_, erg, eok⟩ := smp_take HSQ.out (k := kb) (by rw [HKQ.out]; omega)
                    have hqa : qi = q.take kb ++ [(a : Int)] := by rw [← HQI.out]; exact ea
                    have hB3 : Below w.heap.size w wr := HK2.out.lo.trans (HLW.out.mono HK2.out.lo.size)
                    have kon := onward_any n s t A c l Aq kb cq (q.take kb) a An kn cn nt wr (HCL.out wr hB3) (by rw [← hqa]; exact HSLQ.out wr HLW.out) el (by omega) HNT.out.sl.2 HNL.out (by omega) HG.out HC1.out htn ehd end_ erg eok
                    rw [← hqa] at kon
                    have hbx4 := blk_below HK2.out.bx HLW.out (lt_of_block HK2.out.bx)
                    have q0 := blk_cell hbx4 0
                    have q1 := blk_cell hbx4 1
                    simp only [List.getElem?_toArray, List.getElem?_cons_zero, List.getElem?_cons_succ] at q0 q1
                    have KON := Lib.hid kon
                    have HNTS := Lib.hid hnts
                    have hsm : ∀ z ∈ L3.map (·.2.2), Smp n l s t z := HI2.out.sl
                    have HSM := Lib.hid hsm
                    clear hne hnts ea el ehd end_ erg eok hqa hB3 kon hbx4 HNT HNE hsm
                    go_wp2_with fail
                    refine KON.out.mono ?_
                    rintro e w14 ⟨hb14, hcase⟩
                    have hl14 := HLW.out.trans (hb14.mono HLW.out.size)
                    have hkm14 := HK2.out.keep hl14
                    have hkb14 := HB2.out.keep hl14
                    have hrd14 := HR2.out.keep hl14
                    have hz14 : w.heap.size ≤ wr.heap.size := Nat.le_trans HK2.out.lo.size HLW.out.size
                    rcases hcase with ⟨Ap2, cp2, p2, rfl, ownp2, HP⟩ | ⟨rfl, HP⟩
                    · have hbelow : Below w14.heap.size w14 (w14.alloc (.cells #[.slice Ap2 p2.length cp2, .int .i64 (wt l p2)] 31)) := (Below.refl _ _).alloc (Nat.le_refl _) _
                      have hkm15 := hkm14.keep hbelow
                      have hkb15 := hkb14.keep hbelow
                      have hrd15 := hrd14.keep hbelow
                      have hrn : Rd (w14.alloc (.cells #[.slice Ap2 p2.length cp2, .int .i64 (wt l p2)] 31)) w.heap.size ((Ap2, p2.length, cp2), wt l p2, p2) := Own.alloc (ownp2.mono hz14) _
                      have hbx5 := heap_alloc_new w14 (.cells #[.slice Ap2 p2.length cp2, .int .i64 (wt l p2)] 31)
                      obtain ⟨wv, hwv⟩ : ∃ wv, wt l p2 = wv := ⟨_, rfl⟩
                      obtain ⟨kv, hkv⟩ : ∃ kv, p2.length = kv := ⟨_, rfl⟩
                      rw [hwv, hkv] at hkm15 hkb15 hrd15 hrn hbx5
                      rw [hwv, hkv]
                      have HWV := Lib.hid hwv
                      clear hbelow hwv hkv hb14 hl14 hkm14 hkb14 hrd14 ownp2 q0 q1 KON HK2 HB2 HR2 HLW
                      go_upto_region 28 with fail
                      generalize w14.alloc (.cells #[.slice Ap2 kv cp2, .int .i64 wv] 31) = w15 at hkm15 hkb15 hrd15 hrn hbx5 ⊢
                      generalize w14.heap.size = Z2 at hbx5 ⊢
                      have kps := push_any ltP ltP_ord less_any w.heap.size H Ah2 m2 ch2 L3 (Ap2, kv, cp2) wv p2 w15 hkm15.heap hkm15.hp (by omega) hkm15.lo.size (fun z hz => by
                        rcases List.mem_cons.1 hz with rfl | hz
                        · exact hrn
                        · exact hkm15.rdL z hz)
                      have z0 := blk_cell hbx5 0
                      have z1 := blk_cell hbx5 1
                      simp only [List.getElem?_toArray, List.getElem?_cons_zero, List.getElem?_cons_succ] at z0 z1
                      have KPS := Lib.hid kps
                      have HKM15 := Lib.hid hkm15
                      have HKB15 := Lib.hid hkb15
                      have HRD15 := Lib.hid hrd15
                      have HRN := Lib.hid hrn
                      clear kps hkm15 hkb15 hrd15 hrn hbx5
                      go_wp2_with fail
                      refine KPS.out.mono ?_
                      rintro e w16 ⟨⟨v, rfl⟩, A6, c6, L6, hh6, hpm6, hhp6, hkp6, hrw6⟩
                      have hrow : ∀ S, ob A6 = some S → ob Ah2 = some S ∨ w15.heap.size ≤ S := fun S hS => by
                        rw [← ob_ A6 (m2 + 1) c6] at hS
                        rcases hrw6 S hS with h | h
                        · exact .inl (by rw [← ob_ Ah2 m2 ch2]; exact h)
                        · exact .inr h
                      have hkm16 := HKM15.out.kp hkp6 hh6 hhp6 (fun x hx => by
                        rcases List.mem_cons.1 (hpm6.mem_iff.1 hx) with rfl | hx
                        · exact .inr ⟨rd_kp HKM15.out.heap hkp6 HRN.out, HWV.out.symm⟩
                        · exact .inl hx) hrow
                      have hkb16 := HKB15.out.kp HKM15.out hkp6 hrow
                      have hrd16 := rd_kp HKM15.out.heap hkp6 HRD15.out
                      have hin6 : ∀ z, z ∈ L6.map (·.2.2) ↔ z = p2 ∨ z ∈ L3.map (·.2.2) := fun z => by
                        rw [(hpm6.map (fun x : Pop => x.2.2)).mem_iff, List.map_cons, List.mem_cons]
                      have hinv16 : Inv n l s t (O3.map (·.2.2)) (L6.map (·.2.2)) (bad q (kb + 1 + 1)) := HI2.out.care (fun z hz => (hin6 z).2 (.inr hz)) (fun z hz => by
                        rcases (hin6 z).1 hz with rfl | h
                        · exact HP.out.1.1
                        · exact HSM.out z h) (fun z hz => by
                        rw [HQI.out, ← HNTS.out] at hz ⊢
                        exact ⟨p2, (hin6 p2).2 (.inl rfl), HP.out.1, HP.out.2 z hz⟩)
                      have HKM16 := Lib.hid hkm16
                      have HKB16 := Lib.hid hkb16
                      have HRD16 := Lib.hid hrd16
                      have HINV16 := Lib.hid hinv16
                      clear hrow hkm16 hkb16 hrd16 hin6 hinv16 hh6 hpm6 hhp6 hkp6 hrw6 z0 z1 KPS HKM15 HKB15 HRD15 HRN
                      go_wp2
                      go_roundw
                      case rel => exact ⟨kb + 1 + 1, A6, m2 + 1, c6, L6, by omega, by omega, by go_num, HKM16, HKB16, HINV16, HRD16, by omega⟩
                      case measure => simp [intOf]; omega
                    · have hbelow : Below w14.heap.size w14 (w14.alloc (.cells #[.slice none 0 0, .int .i64 0] 31)) := (Below.refl _ _).alloc (Nat.le_refl _) _
                      have hkm15 := hkm14.keep hbelow
                      have hkb15 := hkb14.keep hbelow
                      have hrd15 := hrd14.keep hbelow
                      have hinv16 : Inv n l s t (O3.map (·.2.2)) (L3.map (·.2.2)) (bad q (kb + 1 + 1)) := HI2.out.care (fun z hz => hz) HSM.out (fun z hz => by
                        rw [HQI.out, ← HNTS.out] at hz
                        exact absurd hz (HP.out z))
                      have HKM16 := Lib.hid hkm15
                      have HKB16 := Lib.hid hkb15
                      have HRD16 := Lib.hid hrd15
                      have HINV16 := Lib.hid hinv16
                      clear hbelow hkm15 hkb15 hrd15 hinv16 hb14 hl14 hkm14 hkb14 hrd14 q0 q1 KON HK2 HB2 HR2 HLW
                      go_wp2
                      go_roundw
                      case rel => exact ⟨kb + 1 + 1, Ah2, m2, ch2, L3, by omega, by omega, by go_num, HKM16, HKB16, HINV16, HRD16, by omega⟩
                      case measure => simp [intOf]; omega
              · obtain rfl : kq = i := by omega
                have hcr := HI2.out.cared (by rw [HKQ.out]; exact Nat.le_refl _)
                have HCR := Lib.hid hcr
                clear hcr
                go_wp2
                go_roundg (65 * (k - (mo + 1)) + m2)
                case measure => omega
                case rel => exact ⟨Ah2, m2, ch2, L3, A3, mo + 1, c3, O3, rfl, HK2, HCR, by omega, Nat.le_refl _, by omega⟩
end Go.Proofs.Ytjebckehmmbkbaa.Yen
