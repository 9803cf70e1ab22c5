/- The walks of net.Copy, john.flat, john.Flat. -/
import Derived.Test.YtlcgkbkmfelcfaaNetTurn
import Derived.Test.YtlcgkbkmfelcfaaJohnLaw
import Derived.Test.YtlcgkbkmfelcfaaRowSet
import Derived.BigRegion
import Derived.BigQuiet
import Derived.Deep.RegionHeld3
namespace Go.Proofs.Ytlcgkbkmfelcfaa.John
open Go.RowKit Go.Proofs.Ytlcgkbkmfelcfaa NetLaw JohnLaw Go.Proofs.Ytlcgkbkmfelcfaa.Net
set_option linter.unusedSimpArgs false
set_option linter.unusedVariables false

set_option maxRecDepth 100000 in
set_option maxHeartbeats 2000000 in
theorem copy_any (N : Int) (A : Option Addr) (c : Nat) (l : List E) (w : World) (hl : Sl w w.heap.size 3 ce A l) (hA : A = none → l.length = 0 ∧ c = 0) (hlen : l.length ≤ 600) :
    Calls Try.prog 80 #[.agg #[.int .i64 N, .slice A l.length c]] w fun e w' => SomeNet N l w e w' := by
  obtain ⟨i0, hi, hz0, hz1, hz2⟩ := info_parts infoEdge
  obtain ⟨w0, hw0⟩ : ∃ w0, w0 = (w.alloc (.cells #[.int .i64 N, .slice A l.length c] 24)).alloc (.cells #[.int .i64 0, .slice none 0 0] 24) := ⟨_, rfl⟩
  have hb0 : Below w.heap.size w w0 := by rw [hw0]; exact ((Below.refl _ _).alloc (Nat.le_refl _) _).alloc (by simp) _
  have hz : w0.heap.size = w.heap.size + 2 := by rw [hw0]; simp
  have q0 : w0.cell? ⟨w.heap.size, 0, none⟩ = some (.int .i64 N) := by rw [hw0]; simp [go_sem]
  have q1 : w0.cell? ⟨w.heap.size, 1, none⟩ = some (.slice A l.length c) := by rw [hw0]; simp [go_sem]
  have r2 : w0.heap[w.heap.size + 1]? = some (.cells #[.int .i64 0, .slice none 0 0] 24 (0, 0)) := by rw [hw0]; have := heap_alloc_new (w.alloc (.cells #[.int .i64 N, .slice A l.length c] 24)) (.cells #[.int .i64 0, .slice none 0 0] 24); simp at this ⊢; exact this
  have r0 := blk_cell r2 0
  have r1 := blk_cell r2 1
  have f0 := blk_free r2 0
  have f1 := blk_free r2 1
  simp only [List.getElem?_toArray, List.getElem?_cons_zero, List.getElem?_cons_succ] at r0 r1
  have hs0 := hl.keep hb0 (Nat.le_refl _)
  have HA := Lib.hid hA
  have HW := Lib.hid hw0
  have hzz : w.heap.size + 1 < w0.heap.size := by omega
  have hzz0 : w.heap.size < w0.heap.size := by omega
  clear hA hl
  go_enter Try.func80, Try.ntmps80
  go_wp2
  rw [← hw0]
  clear hw0
  go_region_law (first
      | (refine step_pushAll _ rfl (.const (.slice none 0 0)) (.tmp 6) _ rfl w0.heap.size 27 i0 _ 3 24 ce Try.underlying22 hi hz0 hz1 hz2 rfl (by decide) _ [] 0 rfl rfl Own.nil_ w.heap.size A l.length c l rfl rfl HA.out (by first | exact hs0 | exact hs0.keep (below_drewN (Below.refl _ _) 1) (Nat.le_refl _) | exact hs0.keep (below_drewN (Below.refl _ _) 2) (Nat.le_refl _)) one_ce (by omega) (by omega) (Nat.le_refl _) ?_
         intro A3 c3 w3 hown3 hgrow3 hat3
         simp only [Nat.zero_add, List.nil_append] at hown3
         have hB3 : Below w0.heap.size w0 w3 := by (first | exact (Below.refl _ _).grown hgrow3 (Nat.le_refl _) (fun k hk => by cases hk) | exact (below_drewN (Below.refl _ _) 1).grown hgrow3 (Nat.le_refl _) (fun k hk => by cases hk) | exact (below_drewN (Below.refl _ _) 2).grown hgrow3 (Nat.le_refl _) (fun k hk => by cases hk))
         have p0 := ((keepAt hB3 hzz0).1 0).trans q0
         have p1 := ((keepAt hB3 hzz0).1 1).trans q1
         have p2 := ((keepAt hB3 hzz).1 0).trans r0
         have p3 := ((keepAt hB3 hzz).1 1).trans r1
         have p4 := ((keepAt hB3 hzz).2 0).trans f0
         have p5 := ((keepAt hB3 hzz).2 1).trans f1
         clear hgrow3))
  all_goals
    go_wp2
    have hne := hown3.ne_ ((hB3.block _ hzz).trans r2) (by decide)
    refine bodyPost_ret (v := .agg #[.int .i64 N, .slice A3 l.length c3]) (by simp [results, Try.results80, go_sem, p0, p1, p2, p3]) rfl ⟨A3, c3, rfl, ?_, ?_⟩
    · exact (((hown3.mono (by omega)).setCell hne _).setCell hne _)
    · exact ((hb0.trans (hB3.mono (by omega))).setCell (by dsimp only; omega) _).setCell (by dsimp only; omega) _

/-- the first k edges with heights -/
def lk (h : List Int) (l : List E) (k : Nat) : List E := flt h (l.take k) ++ l.drop k
theorem lk_len (h : List Int) (l : List E) (k : Nat) : (lk h l k).length = l.length := by simp [lk, flt]; omega
theorem lk_zero (h : List Int) (l : List E) : lk h l 0 = l := by simp [lk, flt]
theorem lk_all (h : List Int) (l : List E) : lk h l l.length = flt h l := by simp [lk]
theorem lk_get (h : List Int) (l : List E) (k : Nat) (hk : k < l.length) (hk' : k < (lk h l k).length) : (lk h l k)[k] = l[k] := by
  have e : (lk h l k)[k]? = some l[k] := by
    unfold lk
    rw [List.getElem?_append_right (by simp [flt]; omega)]
    simp [flt, Nat.min_eq_left (Nat.le_of_lt hk), hk]
  exact Option.some.inj ((List.getElem?_eq_getElem hk').symm.trans e)
theorem lk_set (h : List Int) (l : List E) (k : Nat) (hk : k < l.length) : (lk h l k).set k (flc h l[k]) = lk h l (k + 1) := by
  unfold lk
  have e : (flt h (l.take k)).length = k := by simp [flt]; omega
  rw [List.set_append_right _ _ (by omega), e, Nat.sub_self, List.drop_eq_getElem_cons hk, List.set_cons_zero, List.take_succ_eq_append_getElem hk, flt, flt, List.map_append, List.append_assoc]
  rfl

set_option maxRecDepth 100000 in
set_option maxHeartbeats 4000000 in
theorem flat_any (N : Int) (A : Option Addr) (c : Nat) (l : List E) (A' : Option Addr) (c' : Nat) (h : List Int) (w : World) (hl : Sl w w.heap.size 3 ce A l) (hA : A = none → l.length = 0 ∧ c = 0) (hh : Sl w w.heap.size 1 ci A' h)
    (hg : NetLaw.Good N l) (hN : (h.length : Int) = N) (hlift : ∀ x ∈ h, -1000000000000 ≤ x ∧ x ≤ 1000000000000) :
    Calls Try.prog 54 #[.agg #[.int .i64 N, .slice A l.length c], .slice A' h.length c'] w fun e w' => SomeNet N (flt h l) w e w' := by
  have hb0 : Below w.heap.size w ((w.alloc (.cells #[.int .i64 N, .slice A l.length c] 24)).alloc (.cells #[.int .i64 0, .slice none 0 0] 24)) := ((Below.refl _ _).alloc (Nat.le_refl _) _).alloc (by simp) _
  have key := fun W hs => copy_any N A c l W hs hA hg.len
  have KEY := Lib.hid key
  have hlen := hg.len
  have HG := Lib.hid hg
  have HN := Lib.hid hN
  clear key hA hg hN
  go_enter Try.func54, Try.ntmps54
  go_wp2_with fail
  refine (KEY.out _ ((hl.keep hb0 (Nat.le_refl _)).more (by simp; omega))).mono ?_
  rintro e w1 ⟨A1, c1, rfl, own1, hb1⟩
  have B1 : Below (w.heap.size + 2) _ w1 := hb1.mono (by simp)
  have H1 : Below w.heap.size w w1 := hb0.trans (B1.mono (by omega))
  have hR := blk_below (heap_alloc_new (w.alloc (.cells #[.int .i64 N, .slice A l.length c] 24)) (.cells #[.int .i64 0, .slice none 0 0] 24)) B1 (by simp)
  have hsz : (w.alloc (.cells #[.int .i64 N, .slice A l.length c] 24)).heap.size = w.heap.size + 1 := by simp
  rw [hsz] at hR
  have hz1 : w.heap.size + 2 ≤ w1.heap.size := by have := hb1.size; simp at this; omega
  have own1' := (own1.alloc (.cells #[.int .i64 N, .slice A1 l.length c1] 24)).mono (show w.heap.size ≤ _ by simp; omega)
  have hG1 := heap_alloc_new w1 (.cells #[.int .i64 N, .slice A1 l.length c1] 24)
  have hR1 := blk_alloc hR (.cells #[.int .i64 N, .slice A1 l.length c1] 24)
  have OWN1 := Lib.hid own1'
  have HG1 := Lib.hid hG1
  have HR1 := Lib.hid hR1
  clear hsz hb1 hl own1 own1' hR hR1 hG1
  go_wp2
  go_loopw [13] (fun i wr => ∃ k : Nat, k ≤ l.length ∧ i = .int .i64 k ∧ wr.heap[w1.heap.size]? = some (.cells #[.int .i64 N, .slice A1 l.length c1] 24 (0, 0)) ∧ wr.heap[w.heap.size + 1]? = some (.cells #[.int .i64 0, .slice none 0 0] 24 (0, 0)) ∧
      Own wr w.heap.size 27 3 ce (.slice A1 l.length c1) (lk h l k) ∧ Below w.heap.size w wr) (fun i _ => l.length - (intOf i).toNat)
  case atStart => exact ⟨0, Nat.zero_le _, rfl, HG1.out, HR1.out, by rw [lk_zero]; exact OWN1.out, H1.alloc (by omega) _⟩
  case round =>
    obtain ⟨k, hk, rfl, hO, hR, own, hB⟩ := hrel
    clear OWN1 HG1 HR1
    have hO0 := blk_cell hO 0
    have hO1 := blk_cell hO 1
    have hOz := lt_of_block hO
    have hRz := lt_of_block hR
    simp only [List.getElem?_toArray, List.getElem?_cons_zero, List.getElem?_cons_succ] at hO0 hO1
    by_cases hlt : k < l.length
    · obtain ⟨S, f, t, co, rfl, hS0, hS1, he, hcf, hct, hcc, g0, g1, g2⟩ := own_atE (lk_len h l k) own (show k < (lk h l k).length by rw [lk_len]; exact hlt)
      have he' := he
      rw [lk_get h l k hlt] at he'
      have hg := HG.out
      have hen := hg.ends _ (List.getElem_mem hlt)
      have hco := hg.cost _ (List.getElem_mem hlt)
      rw [he'] at hen hco
      obtain ⟨f0, f1, t0, t1⟩ := hen
      simp only at f0 f1 t0 t1 hco
      obtain ⟨f, rfl⟩ := Int.eq_ofNat_of_zero_le f0
      obtain ⟨t, rfl⟩ := Int.eq_ofNat_of_zero_le t0
      have hN := HN.out
      have f2 : f < h.length := by omega
      have t2 : t < h.length := by omega
      have hh2 := hh.keep hB (Nat.le_refl _)
      obtain ⟨bh, oh, rfl, hbh, hx⟩ := hh2.atI f2
      obtain ⟨bh', oh', hbe, hbh', hy⟩ := hh2.atI t2
      injection hbe with hbe
      injection hbe with hb1 hb2 _
      subst hb1 hb2
      have lx := hlift _ (List.getElem_mem f2)
      have ly := hlift _ (List.getElem_mem t2)
      have hfc : flc h l[k] = ((f : Int), (t : Int), co + h[f] - h[t]) := by
        rw [he']; simp [flc, ht, List.getD_eq_getElem?_getD, f2, t2]
      have hset := own_setj (lk_len h l k) own k 2 (flc h l[k]) (by rw [lk_len]; exact hlt) (by decide) (fun j hj hne => by
        rw [he, hfc]
        match j, hj, hne with
        | 0, _, _ => rfl
        | 1, _, _ => rfl
        | 2, _, hne => exact absurd rfl hne)
      rw [lk_set h l k hlt, hfc] at hset
      have hset' : Own (wr.setCell ⟨S, k * 3 + 2, none⟩ (.int .i64 (co + h[f] - h[t]))) w.heap.size 27 3 ce (.slice (some ⟨S, 0, none⟩) l.length c1) (lk h l (k + 1)) := hset
      have hne1 := own.ne_ hO (by decide)
      have hne2 := own.ne_ hR (by decide)
      generalize h[f] = x at *
      generalize h[t] = y at *
      have HF := Lib.hid hfc
      have OWN := Lib.hid own
      have hSO : ¬ S = w1.heap.size := fun e => hne1 (by rw [e]; rfl)
      have hSR : ¬ S = w.heap.size + 1 := fun e => hne2 (by rw [e]; rfl)
      obtain ⟨lx0, lx1⟩ := lx
      obtain ⟨ly0, ly1⟩ := ly
      obtain ⟨co0, co1⟩ := hco
      have hbr : bh < wr.heap.size := by have := hB.size; omega
      have hSb : ¬ bh = S := by omega
      have hBz := hB.size
      have HSET := Lib.hid hset'
      clear hfc own he he' hset hset' hg hN hh2 hne1 hne2 f0 t0 f1 t1 hh hlift
      go_wp2
      go_region
      all_goals
        go_wp2
        go_roundw
        case' rel => exact ⟨k + 1, by omega, by go_num, blk_alloc (blk_far hO (by dsimp only; omega) _) _, blk_alloc (blk_far hR (by dsimp only; omega) _) _, (HSET.out.alloc _).drewN 1, ((hB.setCell (by dsimp only; omega) _).alloc (by simp [World.setCell]; omega) _).drew⟩
        case' measure => simp [intOf]; omega
    · obtain rfl : k = l.length := by omega
      have hc0 := blk_cell hR 0
      have hc1 := blk_cell hR 1
      have hf0 := blk_free hR 0
      have hf1 := blk_free hR 1
      simp only [List.getElem?_toArray, List.getElem?_cons_zero, List.getElem?_cons_succ] at hc0 hc1
      rw [lk_all] at own
      have hne := own.ne_ hR (by decide)
      have hfl : (flt h l).length = l.length := by simp [flt]
      have HFL := Lib.hid hfl
      have OWN := Lib.hid own
      clear hh own hfl
      go_wp2
      refine bodyPost_ret (v := .agg #[.int .i64 N, .slice A1 l.length c1]) (by simp [results, Try.results54, go_sem, hc0, hc1, hO0, hO1]) rfl ⟨A1, c1, by rw [HFL.out], ?_, ?_⟩
      · rw [HFL.out]
        exact (OWN.out.setCell hne _).setCell hne _
      · exact (hB.setCell (by dsimp only; omega) _).setCell (by dsimp only; omega) _

/-- what Flat answers -/
def FlatSays (N : Int) (l : List E) (h : List Int) (w : World) (e : Ending) (w' : World) : Prop :=
  (ferr N l h ≠ 0 → e = .returned (.tuple #[.agg #[.int .i64 0, .slice none 0 0], .int .i64 (ferr N l h)])) ∧
  (ferr N l h = 0 → ∃ A c, e = .returned (.tuple #[.agg #[.int .i64 N, .slice A l.length c], .int .i64 0]) ∧ Own w' w.heap.size 27 3 ce (.slice A l.length c) (flt h l)) ∧ Below w.heap.size w w'
theorem FlatSays.no {N : Int} {l : List E} {h : List Int} {w w' : World} {e : Ending} {x : Int} (hx : ferr N l h = x) (h0 : x ≠ 0) (he : e = .returned (.tuple #[.agg #[.int .i64 0, .slice none 0 0], .int .i64 x])) (hb : Below w.heap.size w w') : FlatSays N l h w e w' :=
  ⟨fun _ => by rw [hx]; exact he, fun h => absurd (hx.symm.trans h) h0, hb⟩

set_option maxRecDepth 100000 in
set_option maxHeartbeats 4000000 in
theorem Flat_any (N : Int) (A : Option Addr) (c : Nat) (l : List E) (A' : Option Addr) (c' : Nat) (h : List Int) (w : World) (hl : Sl w w.heap.size 3 ce A l) (hA : A = none → l.length = 0 ∧ c = 0) (hh : Sl w w.heap.size 1 ci A' h) (hlen : l.length ≤ 9223372036854775807) (hlen' : h.length ≤ 9223372036854775807) :
    Calls Try.prog 18 #[.agg #[.int .i64 N, .slice A l.length c], .slice A' h.length c'] w fun e w' => FlatSays N l h w e w' := by
  have hb0 : Below w.heap.size w ((w.alloc (.cells #[.int .i64 N, .slice A l.length c] 24)).alloc (.cells #[.int .i64 0, .slice none 0 0] 24)) := ((Below.refl _ _).alloc (Nat.le_refl _) _).alloc (by simp) _
  have key := fun W hs => check_any N A c l W hs hlen
  have hs0 := (hl.keep hb0 (Nat.le_refl _)).more (show w.heap.size ≤ ((w.alloc (.cells #[.int .i64 N, .slice A l.length c] 24)).alloc (.cells #[.int .i64 0, .slice none 0 0] 24)).heap.size by simp; omega)
  have KEY := Lib.hid (key _ hs0)
  clear key hs0
  by_cases hg : chk N l = 0
  · have hgood := chk_zero.1 hg
    rw [hg] at KEY
    have hlen6 := hgood.len
    by_cases hN : (h.length : Int) = N
    · have hfe : ferr N l h = if h.any farOut then 1 else flE (flt h l) := by rw [ferr, if_neg (by simpa using hg), if_neg (by simpa using hN)]
      have HFE := Lib.hid hfe
      have HG := Lib.hid hgood
      have HN := Lib.hid hN
      have HA := Lib.hid hA
      have n64 := hgood.hi
      have h64 : h.length ≤ 64 := by omega
      have hn0 : ((h.length : Int) != N) = false := by rw [bne_eq_false_iff_eq]; exact hN
      clear hfe hgood hg hN hA hlen hlen' n64
      go_enter Try.func18, Try.ntmps18
      go_wp2_with fail
      refine KEY.out.mono ?_
      rintro e w1 ⟨rfl, hb1⟩
      have B1 : Below (w.heap.size + 2) _ w1 := hb1.mono (by simp)
      have H1 : Below w.heap.size w w1 := hb0.trans (B1.mono (by omega))
      have hR := blk_below (heap_alloc_new (w.alloc (.cells #[.int .i64 N, .slice A l.length c] 24)) (.cells #[.int .i64 0, .slice none 0 0] 24)) B1 (by simp)
      have hO := blk_below (blk_alloc (heap_alloc_new w (.cells #[.int .i64 N, .slice A l.length c] 24)) (.cells #[.int .i64 0, .slice none 0 0] 24)) B1 (by omega)
      have hsz : (w.alloc (.cells #[.int .i64 N, .slice A l.length c] 24)).heap.size = w.heap.size + 1 := by simp
      rw [hsz] at hR
      have hz1 : w.heap.size + 2 ≤ w1.heap.size := by have := hb1.size; simp at this; omega
      have hO0 := blk_cell hO 0
      have hO1 := blk_cell hO 1
      have hc0 := blk_cell hR 0
      have hc1 := blk_cell hR 1
      have hf0 := blk_free hR 0
      have hf1 := blk_free hR 1
      simp only [List.getElem?_toArray, List.getElem?_cons_zero, List.getElem?_cons_succ] at hO0 hO1 hc0 hc1
      have HR := Lib.hid hR
      have sl1 := (hl.keep H1 (Nat.le_refl _)).more (show w.heap.size ≤ w1.heap.size by omega)
      have sh1 := (hh.keep H1 (Nat.le_refl _)).more (show w.heap.size ≤ w1.heap.size by omega)
      have SL1 := Lib.hid sl1
      have SH1 := Lib.hid sh1
      clear hsz hb1 hR hO hl sl1 hb0 B1
      go_wp2
      go_loopw [26] (fun i wr => ∃ k : Nat, k ≤ h.length ∧ i = .int .i64 k ∧ h.any farOut = (h.drop k).any farOut ∧ w1 = wr) (fun i _ => h.length - (intOf i).toNat)
      case atStart => exact ⟨0, Nat.zero_le _, rfl, rfl, rfl⟩
      case round =>
        obtain ⟨k, hk, rfl, hany, rfl⟩ := hrel
        have HANY := Lib.hid hany
        clear hany
        by_cases hlt : k < h.length
        · obtain ⟨b, off, rfl, hbB, hx⟩ := sh1.atI hlt
          have hst : h.any farOut = (farOut h[k] || (h.drop (k + 1)).any farOut) := by rw [HANY.out, List.drop_eq_getElem_cons hlt]; rfl
          generalize h[k] = x at *
          have HST := Lib.hid hst
          clear hst hh sh1 HANY
          by_cases hlo : x < -1000000
          · have hfin : ferr N l h = 1 := by rw [HFE.out, if_pos (by rw [HST.out]; simp [farOut, hlo])]
            have HFIN := Lib.hid hfin
            clear hfin
            go_wp2
            refine bodyPost_ret (v := .tuple #[.agg #[.int .i64 0, .slice none 0 0], .int .i64 1]) (by simp [results, Try.results18, go_sem, hc0, hc1]) rfl (.no HFIN.out (by decide) rfl ((H1.setCell (by dsimp only; omega) _).setCell (by dsimp only; omega) _))
          · by_cases hhi : 1000000 < x
            · have hfin : ferr N l h = 1 := by rw [HFE.out, if_pos (by rw [HST.out]; simp [farOut, hhi])]
              have HFIN := Lib.hid hfin
              have hd : decide (x < -1000000) = false := by simp; omega
              clear hfin hlo
              go_wp2
              refine bodyPost_ret (v := .tuple #[.agg #[.int .i64 0, .slice none 0 0], .int .i64 1]) (by simp [results, Try.results18, go_sem, hc0, hc1]) rfl (.no HFIN.out (by decide) rfl ((H1.setCell (by dsimp only; omega) _).setCell (by dsimp only; omega) _))
            · have hd : decide (x < -1000000) = false := by simp; omega
              have hd2 : decide (x > 1000000) = false := by simp; omega
              have hd3 : decide (1000000 < x) = false := by simp; omega
              have hfo : farOut x = false := by simp [farOut]; omega
              have HFO := Lib.hid hfo
              clear hlo hhi hfo
              go_wp2
              go_roundw
              case rel => exact ⟨k + 1, by omega, by go_num, by rw [HST.out, HFO.out]; rfl, by trivial⟩
              case measure => simp [intOf]; omega
        · obtain rfl : k = h.length := by omega
          have hany2 : h.any farOut = false := by rw [HANY.out, List.drop_length]; rfl
          have hlift : ∀ x ∈ h, -1000000000000 ≤ x ∧ x ≤ 1000000000000 := fun x hx => by
            have := hany2
            simp only [List.any_eq_false] at this
            have h4 := this x hx
            simp only [farOut, Bool.or_eq_true, decide_eq_true_eq] at h4
            omega
          have kf := flat_any N A c l A' c' h w1 SL1.out HA.out SH1.out HG.out HN.out hlift
          have hfe : ferr N l h = flE (flt h l) := by rw [HFE.out, hany2]; rfl
          have HFE2 := Lib.hid hfe
          have KF := Lib.hid kf
          clear kf hany2 hlift hfe HANY hlt sh1 hh
          go_wp2_with fail
          refine KF.out.mono ?_
          rintro e w2 ⟨A2, c2, rfl, own2, hb2⟩
          have hfl : (flt h l).length = l.length := by simp [flt]
          rw [hfl] at own2
          have H2 : Below w.heap.size w w2 := H1.trans (hb2.mono (by omega))
          have hR2 := blk_below HR.out hb2 (by omega)
          have hz2 := hb2.size
          have hG2 := heap_alloc_new w2 (.cells #[.int .i64 N, .slice A2 l.length c2] 24)
          have hR2' := blk_alloc hR2 (.cells #[.int .i64 N, .slice A2 l.length c2] 24)
          have own2' := (own2.alloc (.cells #[.int .i64 N, .slice A2 l.length c2] 24)).mono (show w.heap.size ≤ w1.heap.size by omega)
          have HFL := Lib.hid hfl
          have G2 := Lib.hid hG2
          have R2 := Lib.hid hR2'
          have OWN2 := Lib.hid own2'
          clear hb2 hR2 hR2' own2 own2' hc0 hc1 hf0 hf1 hO0 hO1 hG2
          rw [HFL.out]
          go_wp2
          go_loopw [44] (fun i wr => ∃ k : Nat, k ≤ l.length ∧ i = .int .i64 k ∧ flE (flt h l) = flE ((flt h l).drop k) ∧ wr.heap[w2.heap.size]? = some (.cells #[.int .i64 N, .slice A2 l.length c2] 24 (0, 0)) ∧ wr.heap[w.heap.size + 1]? = some (.cells #[.int .i64 0, .slice none 0 0] 24 (0, 0)) ∧
              Own wr w.heap.size 27 3 ce (.slice A2 l.length c2) (flt h l) ∧ Below w.heap.size w wr) (fun i _ => l.length - (intOf i).toNat)
          case atStart => exact ⟨0, Nat.zero_le _, rfl, rfl, G2.out, R2.out, OWN2.out, H2.alloc (by omega) _⟩
          case round =>
            obtain ⟨k, hk, rfl, hfk, hG, hR, own, hB⟩ := hrel
            clear OWN2 G2 R2
            have hG0 := blk_cell hG 0
            have hG1 := blk_cell hG 1
            have hGz := lt_of_block hG
            have hRz := lt_of_block hR
            have hc0 := blk_cell hR 0
            have hc1 := blk_cell hR 1
            have hf0 := blk_free hR 0
            have hf1 := blk_free hR 1
            simp only [List.getElem?_toArray, List.getElem?_cons_zero, List.getElem?_cons_succ] at hc0 hc1 hG0 hG1
            have hBz := hB.size
            by_cases hlt : k < l.length
            · have hlt' : k < (flt h l).length := by rw [HFL.out]; exact hlt
              obtain ⟨S, f, t, co, rfl, hS0, hS1, he, hcf, hct, hcc, g0, g1, g2⟩ := own_atE HFL.out own hlt'
              have hst : flE (flt h l) = if co < 0 then 4 else if 10000 < co then 2 else flE ((flt h l).drop (k + 1)) := by
                rw [hfk, flE_drop _ _ hlt', he]
              have HST := Lib.hid hst
              have OWN := Lib.hid own
              have G := Lib.hid hG
              have R := Lib.hid hR
              have hE := hB.alloc hBz (.cells #[.int .i64 f, .int .i64 t, .int .i64 co] 27)
              clear hst hfk own he hlt' hG hR
              by_cases hlo : co < 0
              · have hfin : ferr N l h = 4 := by rw [HFE2.out, HST.out, if_pos hlo]
                have HFIN := Lib.hid hfin
                clear hfin
                go_wp2
                refine bodyPost_ret (v := .tuple #[.agg #[.int .i64 0, .slice none 0 0], .int .i64 4]) (by simp [results, Try.results18, go_sem, hc0, hc1, hRz]) rfl (.no HFIN.out (by decide) rfl ?_)
                exact ((hB.setCell (by dsimp only; omega) _).setCell (by dsimp only; omega) _).alloc (by simp [World.setCell]; omega) _
              · by_cases hhi : 10000 < co
                · have hfin : ferr N l h = 2 := by rw [HFE2.out, HST.out, if_neg hlo, if_pos hhi]
                  have HFIN := Lib.hid hfin
                  clear hfin
                  go_wp2
                  refine bodyPost_ret (v := .tuple #[.agg #[.int .i64 0, .slice none 0 0], .int .i64 2]) (by simp [results, Try.results18, go_sem, hc0, hc1, hRz]) rfl (.no HFIN.out (by decide) rfl ?_)
                  exact ((hB.setCell (by dsimp only; omega) _).setCell (by dsimp only; omega) _).alloc (by simp [World.setCell]; omega) _
                · go_wp2
                  go_roundw
                  case rel => exact ⟨k + 1, by omega, by go_num, by rw [HST.out, if_neg hlo, if_neg hhi], blk_alloc G.out _, blk_alloc R.out _, OWN.out.alloc _, hE⟩
                  case measure => simp [intOf]; omega
            · obtain rfl : k = l.length := by omega
              have hfin : ferr N l h = 0 := by rw [HFE2.out, hfk, ← HFL.out, List.drop_length]; rfl
              have HFIN := Lib.hid hfin
              have hne := own.ne_ hR (by decide)
              have OWN := Lib.hid own
              clear hfin hfk own hR hG
              go_wp2
              refine bodyPost_ret (v := .tuple #[.agg #[.int .i64 N, .slice A2 l.length c2], .int .i64 0]) (by simp [results, Try.results18, go_sem, hc0, hc1, hG0, hG1]) rfl ⟨fun h => absurd HFIN.out h, fun _ => ⟨A2, c2, rfl, ?_⟩, ?_⟩
              · exact (OWN.out.setCell hne _).setCell hne _
              · exact (hB.setCell (by dsimp only; omega) _).setCell (by dsimp only; omega) _
    · have hfe : ferr N l h = 1 := by rw [ferr, if_neg (by simpa using hg), if_pos hN]
      have HFE := Lib.hid hfe
      have hn1 : ((h.length : Int) != N) = true := by rw [bne_iff_ne]; exact hN
      clear hfe hgood hg hN hA hh
      go_enter Try.func18, Try.ntmps18
      go_wp2_with fail
      refine KEY.out.mono ?_
      rintro e w1 ⟨rfl, hb1⟩
      have B1 : Below (w.heap.size + 2) _ w1 := hb1.mono (by simp)
      have H1 : Below w.heap.size w w1 := hb0.trans (B1.mono (by omega))
      have hR := blk_below (heap_alloc_new (w.alloc (.cells #[.int .i64 N, .slice A l.length c] 24)) (.cells #[.int .i64 0, .slice none 0 0] 24)) B1 (by simp)
      have hO := blk_below (blk_alloc (heap_alloc_new w (.cells #[.int .i64 N, .slice A l.length c] 24)) (.cells #[.int .i64 0, .slice none 0 0] 24)) B1 (by omega)
      have hsz : (w.alloc (.cells #[.int .i64 N, .slice A l.length c] 24)).heap.size = w.heap.size + 1 := by simp
      rw [hsz] at hR
      have hz1 : w.heap.size + 2 ≤ w1.heap.size := by have := hb1.size; simp at this; omega
      have hO0 := blk_cell hO 0
      have hO1 := blk_cell hO 1
      have hc0 := blk_cell hR 0
      have hc1 := blk_cell hR 1
      have hf0 := blk_free hR 0
      have hf1 := blk_free hR 1
      simp only [List.getElem?_toArray, List.getElem?_cons_zero, List.getElem?_cons_succ] at hO0 hO1 hc0 hc1
      clear hsz hb1 hR hO hl hb0 B1
      go_wp2
      refine bodyPost_ret (v := .tuple #[.agg #[.int .i64 0, .slice none 0 0], .int .i64 1]) (by simp [results, Try.results18, go_sem, hc0, hc1]) rfl (.no HFE.out (by decide) rfl ((H1.setCell (by dsimp only; omega) _).setCell (by dsimp only; omega) _))
  · have hfe : ferr N l h = chk N l := by rw [ferr, if_pos hg]
    have HFE := Lib.hid hfe
    have HNE := Lib.hid hg
    have hne : (chk N l != 0) = true := by rw [bne_iff_ne]; exact hg
    clear hfe hg
    generalize chk N l = x at *
    go_enter Try.func18, Try.ntmps18
    go_wp2_with fail
    refine KEY.out.mono ?_
    rintro e w1 ⟨rfl, hb1⟩
    have B1 : Below (w.heap.size + 2) _ w1 := hb1.mono (by simp)
    have H1 : Below w.heap.size w w1 := hb0.trans (B1.mono (by omega))
    have hR := blk_below (heap_alloc_new (w.alloc (.cells #[.int .i64 N, .slice A l.length c] 24)) (.cells #[.int .i64 0, .slice none 0 0] 24)) B1 (by simp)
    have hsz : (w.alloc (.cells #[.int .i64 N, .slice A l.length c] 24)).heap.size = w.heap.size + 1 := by simp
    rw [hsz] at hR
    have hc0 := blk_cell hR 0
    have hc1 := blk_cell hR 1
    have hf0 := blk_free hR 0
    have hf1 := blk_free hR 1
    simp only [List.getElem?_toArray, List.getElem?_cons_zero, List.getElem?_cons_succ] at hc0 hc1
    clear hsz hb1 hR hl hh hb0 B1
    go_wp2
    refine bodyPost_ret (v := .tuple #[.agg #[.int .i64 0, .slice none 0 0], .int .i64 x]) (by simp [results, Try.results18, go_sem, hc0, hc1]) rfl (.no HFE.out HNE.out rfl ((H1.setCell (by dsimp only; omega) _).setCell (by dsimp only; omega) _))
end Go.Proofs.Ytlcgkbkmfelcfaa.John
