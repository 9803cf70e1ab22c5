/- The walks of net.Copy, john.flat, john.Flat. -/
import Derived.Test.YtdpjbjgecmnmnaaNetTurn
import Derived.Test.YtdpjbjgecmnmnaaJohnLaw
import Derived.Test.YtdpjbjgecmnmnaaRowSet
import Derived.BigRegion
import Derived.BigQuiet
import Derived.Deep.RegionHeld3
namespace Go.Proofs.Ytdpjbjgecmnmnaa.John
open Go.RowKit Go.Proofs.Ytdpjbjgecmnmnaa NetLaw JohnLaw Go.Proofs.Ytdpjbjgecmnmnaa.Net
set_option linter.unusedSimpArgs false
set_option linter.unusedVariables false

set_option maxRecDepth 100000 in
set_option maxHeartbeats 2000000 in
theorem copy_any (N : Int) (A : Option Addr) (c : Nat) (l : List E) (w : World) (hl : Sl w w.heap.size 3 ce A l) (hA : A = none → l.length = 0 ∧ c = 0) (hlen : l.length ≤ 600) :
    Calls Try.prog 85 #[.agg #[.int .i64 N, .slice A l.length c]] w fun e w' => SomeNet N l w e w' := by
  obtain ⟨i0, hi, hz0, hz1, hz2⟩ := info_parts infoEdge
  obtain ⟨w0, hw0⟩ : ∃ w0, w0 = (w.alloc (.cells #[.int .i64 N, .slice A l.length c] 24)).alloc (.cells #[.int .i64 0, .slice none 0 0] 24) := ⟨_, rfl⟩
  have hb0 : Below w.heap.size w w0 := by rw [hw0]; exact ((Below.refl _ _).alloc (Nat.le_refl _) _).alloc (by simp) _
  have hz : w0.heap.size = w.heap.size + 2 := by rw [hw0]; simp
  have q0 : w0.cell? ⟨w.heap.size, 0, none⟩ = some (.int .i64 N) := by rw [hw0]; simp [go_sem]
  have q1 : w0.cell? ⟨w.heap.size, 1, none⟩ = some (.slice A l.length c) := by rw [hw0]; simp [go_sem]
  have r2 : w0.heap[w.heap.size + 1]? = some (.cells #[.int .i64 0, .slice none 0 0] 24 (0, 0)) := by rw [hw0]; have := heap_alloc_new (w.alloc (.cells #[.int .i64 N, .slice A l.length c] 24)) (.cells #[.int .i64 0, .slice none 0 0] 24); simp at this ⊢; exact this
  have r0 := blk_cell r2 0
  have r1 := blk_cell r2 1
  have f0 := blk_free r2 0
  have f1 := blk_free r2 1
  simp only [List.getElem?_toArray, List.getElem?_cons_zero, List.getElem?_cons_succ] at r0 r1
  have hs0 := hl.keep hb0 (Nat.le_refl _)
  have HA := Lib.hid hA
  have HW := Lib.hid hw0
  have hzz : w.heap.size + 1 < w0.heap.size := by omega
  have hzz0 : w.heap.size < w0.heap.size := by omega
  clear hA hl
  go_enter Try.func85, Try.ntmps85
  go_wp2
  rw [← hw0]
  clear hw0
  go_region_law (first
      | (refine step_pushAll _ rfl (.const (.slice none 0 0)) (.tmp 6) _ rfl w0.heap.size 60 i0 _ 3 24 ce Try.underlying22 hi hz0 hz1 hz2 rfl (by decide) _ [] 0 rfl rfl Own.nil_ w.heap.size A l.length c l rfl rfl HA.out (by first | exact hs0 | exact hs0.keep (below_drewN (Below.refl _ _) 1) (Nat.le_refl _) | exact hs0.keep (below_drewN (Below.refl _ _) 2) (Nat.le_refl _)) one_ce (by omega) (by omega) (Nat.le_refl _) ?_
         intro A3 c3 w3 hown3 hgrow3 hat3
         simp only [Nat.zero_add, List.nil_append] at hown3
         have hB3 : Below w0.heap.size w0 w3 := by (first | exact (Below.refl _ _).grown hgrow3 (Nat.le_refl _) (fun k hk => by cases hk) | exact (below_drewN (Below.refl _ _) 1).grown hgrow3 (Nat.le_refl _) (fun k hk => by cases hk) | exact (below_drewN (Below.refl _ _) 2).grown hgrow3 (Nat.le_refl _) (fun k hk => by cases hk))
         have p0 := ((keepAt hB3 hzz0).1 0).trans q0
         have p1 := ((keepAt hB3 hzz0).1 1).trans q1
         have p2 := ((keepAt hB3 hzz).1 0).trans r0
         have p3 := ((keepAt hB3 hzz).1 1).trans r1
         have p4 := ((keepAt hB3 hzz).2 0).trans f0
         have p5 := ((keepAt hB3 hzz).2 1).trans f1
         clear hgrow3))
  all_goals
    go_wp2
    have hne := hown3.ne_ ((hB3.block _ hzz).trans r2) (by decide)
    refine bodyPost_ret (v := .agg #[.int .i64 N, .slice A3 l.length c3]) (by simp [results, Try.results85, go_sem, p0, p1, p2, p3]) rfl ⟨A3, c3, rfl, ?_, ?_⟩
    · exact (((hown3.mono (by omega)).setCell hne _).setCell hne _)
    · exact ((hb0.trans (hB3.mono (by omega))).setCell (by dsimp only; omega) _).setCell (by dsimp only; omega) _

/-- the first k edges with heights -/
def lk (h : List Int) (l : List E) (k : Nat) : List E := flt h (l.take k) ++ l.drop k
theorem lk_len (h : List Int) (l : List E) (k : Nat) : (lk h l k).length = l.length := by simp [lk, flt]; omega
theorem lk_zero (h : List Int) (l : List E) : lk h l 0 = l := by simp [lk, flt]
theorem lk_all (h : List Int) (l : List E) : lk h l l.length = flt h l := by simp [lk]
theorem lk_get (h : List Int) (l : List E) (k : Nat) (hk : k < l.length) (hk' : k < (lk h l k).length) : (lk h l k)[k] = l[k] := by
  have e : (lk h l k)[k]? = some l[k] := by
    unfold lk
    rw [List.getElem?_append_right (by simp [flt]; omega)]
    simp [flt, Nat.min_eq_left (Nat.le_of_lt hk), hk]
  exact Option.some.inj ((List.getElem?_eq_getElem hk').symm.trans e)
theorem lk_set (h : List Int) (l : List E) (k : Nat) (hk : k < l.length) : (lk h l k).set k (flc h l[k]) = lk h l (k + 1) := by
  unfold lk
  have e : (flt h (l.take k)).length = k := by simp [flt]; omega
  rw [List.set_append_right _ _ (by omega), e, Nat.sub_self, List.drop_eq_getElem_cons hk, List.set_cons_zero, List.take_succ_eq_append_getElem hk, flt, flt, List.map_append, List.append_assoc]
  rfl

set_option maxRecDepth 100000 in
set_option maxHeartbeats 4000000 in
theorem flat_any (N : Int) (A : Option Addr) (c : Nat) (l : List E) (A' : Option Addr) (c' : Nat) (h : List Int) (w : World) (hl : Sl w w.heap.size 3 ce A l) (hA : A = none → l.length = 0 ∧ c = 0) (hh : Sl w w.heap.size 1 ci A' h)
    (hg : NetLaw.Good N l) (hN : (h.length : Int) = N) (hlift : ∀ x ∈ h, -1000000000000 ≤ x ∧ x ≤ 1000000000000) :
    Calls Try.prog 57 #[.agg #[.int .i64 N, .slice A l.length c], .slice A' h.length c'] w fun e w' => SomeNet N (flt h l) w e w' := by
  have hb0 : Below w.heap.size w ((w.alloc (.cells #[.int .i64 N, .slice A l.length c] 24)).alloc (.cells #[.int .i64 0, .slice none 0 0] 24)) := ((Below.refl _ _).alloc (Nat.le_refl _) _).alloc (by simp) _
  have key := fun W hs => copy_any N A c l W hs hA hg.len
  have KEY := Lib.hid key
  have hlen := hg.len
  have HG := Lib.hid hg
  have HN := Lib.hid hN
  clear key hA hg hN
  go_enter Try.func57, Try.ntmps57
  go_wp2_with fail
  refine (KEY.out _ ((hl.keep hb0 (Nat.le_refl _)).more (by simp; omega))).mono ?_
  rintro e w1 ⟨A1, c1, rfl, own1, hb1⟩
  have B1 : Below (w.heap.size + 2) _ w1 := hb1.mono (by simp)
  have H1 : Below w.heap.size w w1 := hb0.trans (B1.mono (by omega))
  have hR := blk_below (heap_alloc_new (w.alloc (.cells #[.int .i64 N, .slice A l.length c] 24)) (.cells #[.int .i64 0, .slice none 0 0] 24)) B1 (by simp)
  have hsz : (w.alloc (.cells #[.int .i64 N, .slice A l.length c] 24)).heap.size = w.heap.size + 1 := by simp
  rw [hsz] at hR
  have hz1 : w.heap.size + 2 ≤ w1.heap.size := by have := hb1.size; simp at this; omega
  have own1' := (own1.alloc (.cells #[.int .i64 N, .slice A1 l.length c1] 24)).mono (show w.heap.size ≤ _ by simp; omega)
  have hG1 := heap_alloc_new w1 (.cells #[.int .i64 N, .slice A1 l.length c1] 24)
  have hR1 := blk_alloc hR (.cells #[.int .i64 N, .slice A1 l.length c1] 24)
  have OWN1 := Lib.hid own1'
  have HG1 := Lib.hid hG1
  have HR1 := Lib.hid hR1
  clear hsz hb1 hl own1 own1' hR hR1 hG1
  go_wp2
  go_loopw [13] (fun i wr => ∃ k : Nat, k ≤ l.length ∧ i = .int .i64 k ∧ wr.heap[w1.heap.size]? = some (.cells #[.int .i64 N, .slice A1 l.length c1] 24 (0, 0)) ∧ wr.heap[w.heap.size + 1]? = some (.cells #[.int .i64 0, .slice none 0 0] 24 (0, 0)) ∧
      Own wr w.heap.size 60 3 ce (.slice A1 l.length c1) (lk h l k) ∧ Below w.heap.size w wr) (fun i _ => l.length - (intOf i).toNat)
  case atStart => exact ⟨0, Nat.zero_le _, rfl, HG1.out, HR1.out, by rw [lk_zero]; exact OWN1.out, H1.alloc (by omega) _⟩
  case round =>
    obtain ⟨k, hk, rfl, hO, hR, own, hB⟩ := hrel
    clear OWN1 HG1 HR1
    have hO0 := blk_cell hO 0
    have hO1 := blk_cell hO 1
    have hOz := lt_of_block hO
    have hRz := lt_of_block hR
    simp only [List.getElem?_toArray, List.getElem?_cons_zero, List.getElem?_cons_succ] at hO0 hO1
    by_cases hlt : k < l.length
    · obtain ⟨S, f, t, co, rfl, hS0, hS1, he, hcf, hct, hcc, g0, g1, g2⟩ := own_atE (lk_len h l k) own (show k < (lk h l k).length by rw [lk_len]; exact hlt)
      have he' := he
      rw [lk_get h l k hlt] at he'
      have hg := HG.out
      have hen := hg.ends _ (List.getElem_mem hlt)
      have hco := hg.cost _ (List.getElem_mem hlt)
      rw [he'] at hen hco
      obtain ⟨f0, f1, t0, t1⟩ := hen
      simp only at f0 f1 t0 t1 hco
      obtain ⟨f, rfl⟩ := Int.eq_ofNat_of_zero_le f0
      obtain ⟨t, rfl⟩ := Int.eq_ofNat_of_zero_le t0
      have hN := HN.out
      have f2 : f < h.length := by omega
      have t2 : t < h.length := by omega
      have hh2 := hh.keep hB (Nat.le_refl _)
      obtain ⟨bh, oh, rfl, hbh, hx⟩ := hh2.atI f2
      obtain ⟨bh', oh', hbe, hbh', hy⟩ := hh2.atI t2
      injection hbe with hbe
      injection hbe with hb1 hb2 _
      subst hb1 hb2
      have lx := hlift _ (List.getElem_mem f2)
      have ly := hlift _ (List.getElem_mem t2)
      have hfc : flc h l[k] = ((f : Int), (t : Int), co + h[f] - h[t]) := by
        rw [he']; simp [flc, ht, List.getD_eq_getElem?_getD, f2, t2]
      have hset := own_setj (lk_len h l k) own k 2 (flc h l[k]) (by rw [lk_len]; exact hlt) (by decide) (fun j hj hne => by
        rw [he, hfc]
        match j, hj, hne with
        | 0, _, _ => rfl
        | 1, _, _ => rfl
        | 2, _, hne => exact absurd rfl hne)
      rw [lk_set h l k hlt, hfc] at hset
      have hset' : Own (wr.setCell ⟨S, k * 3 + 2, none⟩ (.int .i64 (co + h[f] - h[t]))) w.heap.size 60 3 ce (.slice (some ⟨S, 0, none⟩) l.length c1) (lk h l (k + 1)) := hset
      have hne1 := own.ne_ hO (by decide)
      have hne2 := own.ne_ hR (by decide)
      generalize h[f] = x at *
      generalize h[t] = y at *
      have HF := Lib.hid hfc
      have OWN := Lib.hid own
      have hSO : ¬ S = w1.heap.size := fun e => hne1 (by rw [e]; rfl)
      have hSR : ¬ S = w.heap.size + 1 := fun e => hne2 (by rw [e]; rfl)
      obtain ⟨lx0, lx1⟩ := lx
      obtain ⟨ly0, ly1⟩ := ly
      obtain ⟨co0, co1⟩ := hco
      have hbr : bh < wr.heap.size := by have := hB.size; omega
      have hSb : ¬ bh = S := by omega
      have hBz := hB.size
      have HSET := Lib.hid hset'
      clear hfc own he he' hset hset' hg hN hh2 hne1 hne2 f0 t0 f1 t1 hh hlift
      go_wp2
      go_region
      all_goals
        go_wp2
        go_roundw
        case' rel => exact ⟨k + 1, by omega, by go_num, blk_alloc (blk_far hO (by dsimp only; omega) _) _, blk_alloc (blk_far hR (by dsimp only; omega) _) _, (HSET.out.alloc _).drewN 1, ((hB.setCell (by dsimp only; omega) _).alloc (by simp [World.setCell]; omega) _).drew⟩
        case' measure => simp [intOf]; omega
    · obtain rfl : k = l.length := by omega
      have hc0 := blk_cell hR 0
      have hc1 := blk_cell hR 1
      have hf0 := blk_free hR 0
      have hf1 := blk_free hR 1
      simp only [List.getElem?_toArray, List.getElem?_cons_zero, List.getElem?_cons_succ] at hc0 hc1
      rw [lk_all] at own
      have hne := own.ne_ hR (by decide)
      have hfl : (flt h l).length = l.length := by simp [flt]
      have HFL := Lib.hid hfl
      have OWN := Lib.hid own
      clear hh own hfl
      go_wp2
      refine bodyPost_ret (v := .agg #[.int .i64 N, .slice A1 l.length c1]) (by simp [results, Try.results57, go_sem, hc0, hc1, hO0, hO1]) rfl ⟨A1, c1, by rw [HFL.out], ?_, ?_⟩
      · rw [HFL.out]
        exact (OWN.out.setCell hne _).setCell hne _
      · exact (hB.setCell (by dsimp only; omega) _).setCell (by dsimp only; omega) _

/-- what Flat answers -/
def FlatSays (N : Int) (l : List E) (h : List Int) (w : World) (e : Ending) (w' : World) : Prop :=
  (ferr N l h ≠ 0 → e = .returned (.tuple #[.agg #[.int .i64 0, .slice none 0 0], .int .i64 (ferr N l h)])) ∧
  (ferr N l h = 0 → ∃ A c, e = .returned (.tuple #[.agg #[.int .i64 N, .slice A l.length c], .int .i64 0]) ∧ Own w' w.heap.size 60 3 ce (.slice A l.length c) (flt h l)) ∧ Below w.heap.size w w'
theorem FlatSays.no {N : Int} {l : List E} {h : List Int} {w w' : World} {e : Ending} {x : Int} (hx : ferr N l h = x) (h0 : x ≠ 0) (he : e = .returned (.tuple #[.agg #[.int .i64 0, .slice none 0 0], .int .i64 x])) (hb : Below w.heap.size w w') : FlatSays N l h w e w' :=
  ⟨fun _ => by rw [hx]; exact he, fun h => absurd (hx.symm.trans h) h0, hb⟩

end Go.Proofs.Ytdpjbjgecmnmnaa.John
