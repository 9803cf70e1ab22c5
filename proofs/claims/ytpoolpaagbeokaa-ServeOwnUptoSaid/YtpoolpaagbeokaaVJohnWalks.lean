/- Plain facts on heights: no Go in sight. -/
/- The walks of net.Copy, john.flat, john.Flat. -/
import Derived.Test.YtpoolpaagbeokaaVWayLaw
import Derived.Test.YtpoolpaagbeokaaVNetTurn
import Derived.Test.YtpoolpaagbeokaaVRowSet
import Derived.BigRegion
import Derived.BigQuiet
import Derived.Deep.RegionHeld3
namespace Go.Proofs.Ytpoolpaagbeokaa.JohnLaw
open Go.Proofs.Ytpoolpaagbeokaa.NetLaw Go.Proofs.Ytpoolpaagbeokaa.WalkLaw
set_option linter.unusedSimpArgs false
set_option linter.unusedVariables false
/-- a height -/
def ht (h : List Int) (v : Int) : Int := h.getD v.toNat 0
/-- an edge with heights -/
def flc (h : List Int) (e : E) : E := (e.1, e.2.1, e.2.2 + ht h e.1 - ht h e.2.1)
def flt (h : List Int) (l : List E) : List E := l.map (flc h)
/-- the first fault of the costs -/
def flE : List E → Int
  | [] => 0
  | e :: r => if e.2.2 < 0 then 4 else if 10000 < e.2.2 then 2 else flE r
def farOut (x : Int) : Bool := decide (x < -1000000) || decide (1000000 < x)
/-- what Flat tells -/
def ferr (N : Int) (l : List E) (h : List Int) : Int :=
  if chk N l ≠ 0 then chk N l else if (h.length : Int) ≠ N then 1 else if h.any farOut then 1 else flE (flt h l)
theorem flE_drop (l : List E) (k : Nat) (h : k < l.length) : flE (l.drop k) = if l[k].2.2 < 0 then 4 else if 10000 < l[k].2.2 then 2 else flE (l.drop (k + 1)) := by
  rw [List.drop_eq_getElem_cons h]; rfl
theorem flE_zero {l : List E} (h : flE l = 0) : ∀ e ∈ l, 0 ≤ e.2.2 ∧ e.2.2 ≤ 10000 := by
  induction l with
  | nil => simp
  | cons e r ih =>
    rw [flE] at h
    split at h
    · omega
    · split at h
      · omega
      · intro x hx
        rcases List.mem_cons.1 hx with rfl | hx
        · omega
        · exact ih h x hx
structure FGood (N : Int) (l : List E) (h : List Int) : Prop where
  good : NetLaw.Good N l
  len : (h.length : Int) = N
  lift : ∀ x ∈ h, -1000000 ≤ x ∧ x ≤ 1000000
theorem ferr_good {N : Int} {l : List E} {h : List Int} (hz : ferr N l h = 0) : FGood N l h ∧ flE (flt h l) = 0 := by
  unfold ferr at hz
  split at hz
  · rename_i h1; exact absurd hz h1
  · rename_i h1
    split at hz
    · omega
    · rename_i h2
      split at hz
      · omega
      · rename_i h3
        refine ⟨⟨chk_zero.1 (by simpa using h1), by omega, fun x hx => ?_⟩, hz⟩
        have := h3
        simp only [List.any_eq_true, not_exists, not_and, Bool.not_eq_true] at this
        have h4 := this x hx
        simp only [farOut, Bool.or_eq_false_iff, decide_eq_false_iff_not] at h4
        omega
theorem good_flt {N : Int} {l : List E} {h : List Int} (hz : ferr N l h = 0) : NetLaw.Good N (flt h l) := by
  obtain ⟨hf, h0⟩ := ferr_good hz
  have hc := flE_zero h0
  refine ⟨hf.good.lo, hf.good.hi, by rw [flt, List.length_map]; exact hf.good.len, fun e he => ?_, fun e he => ?_⟩
  · rw [flt, List.mem_map] at he
    obtain ⟨x, hx, rfl⟩ := he
    exact hf.good.ends x hx
  · have := hc e he
    omega
theorem eg_flt (h : List Int) (l : List E) (a b : Int) : eg (flt h l) a b = if (eg l a b).2 then ((eg l a b).1 + ht h a - ht h b, true) else (0, false) := by
  have key : ∀ (l : List E) (s s' : Int × Bool), s'.2 = s.2 → (s.2 = true → s'.1 = s.1 + ht h a - ht h b) → (s.2 = false → s'.1 = 0) →
      ((flt h l).foldl (egS a b) s').2 = (l.foldl (egS a b) s).2 ∧ ((l.foldl (egS a b) s).2 = true → ((flt h l).foldl (egS a b) s').1 = (l.foldl (egS a b) s).1 + ht h a - ht h b) ∧ ((l.foldl (egS a b) s).2 = false → ((flt h l).foldl (egS a b) s').1 = 0) := by
    intro l
    induction l with
    | nil => intro s s' h1 h2 h3; exact ⟨h1, h2, h3⟩
    | cons e r ih =>
      intro s s' h1 h2 h3
      have e1 : flt h (e :: r) = flc h e :: flt h r := rfl
      rw [e1, List.foldl_cons, List.foldl_cons]
      by_cases hc : e.1 = a ∧ e.2.1 = b ∧ (s.2 = false ∨ e.2.2 < s.1)
      · have hc' : (flc h e).1 = a ∧ (flc h e).2.1 = b ∧ (s'.2 = false ∨ (flc h e).2.2 < s'.1) := by
          refine ⟨hc.1, hc.2.1, ?_⟩
          rcases hc.2.2 with h4 | h4
          · exact .inl (h1.trans h4)
          · cases hs : s.2 with
            | false => exact .inl (h1.trans hs)
            | true =>
              right
              rw [h2 hs]
              simp only [flc, hc.1, hc.2.1]
              omega
        rw [egS, egS, if_pos hc, if_pos hc']
        refine ih _ _ rfl (fun _ => ?_) (fun h => by cases h)
        simp only [flc, hc.1, hc.2.1]
      · have hc' : ¬ ((flc h e).1 = a ∧ (flc h e).2.1 = b ∧ (s'.2 = false ∨ (flc h e).2.2 < s'.1)) := by
          rintro ⟨h4, h5, h6⟩
          refine hc ⟨h4, h5, ?_⟩
          rcases h6 with h6 | h6
          · exact .inl (h1.symm.trans h6)
          · cases hs : s.2 with
            | false => exact .inl rfl
            | true =>
              right
              rw [h2 hs] at h6
              have h4' : e.1 = a := h4
              have h5' : e.2.1 = b := h5
              simp only [flc, h4', h5'] at h6
              omega
        rw [egS, egS, if_neg hc, if_neg hc']
        exact ih _ _ h1 h2 h3
  obtain ⟨k1, k2, k3⟩ := key l (0, false) (0, false) rfl (fun h => by cases h) (fun _ => rfl)
  unfold eg
  cases hs : (l.foldl (egS a b) (0, false)).2 with
  | true => rw [if_pos rfl]; exact Prod.ext (k2 hs) (k1.trans hs)
  | false => rw [if_neg (by decide)]; exact Prod.ext (k3 hs) (k1.trans hs)
theorem okP_flt (h : List Int) (l : List E) (ps : List (Int × Int)) : okP (flt h l) ps = okP l ps := by
  unfold okP
  congr 1
  funext p
  rw [eg_flt]
  cases (eg l p.1 p.2).2 <;> rfl
theorem sum_flt (h : List Int) (l : List E) (x : Int) (r : List Int) (hk : okP l (prs (x :: r)) = true) : sumP (flt h l) (prs (x :: r)) = sumP l (prs (x :: r)) + ht h x - ht h ((x :: r).getLast (by simp)) := by
  induction r generalizing x with
  | nil => simp [prs, sumP]
  | cons y r ih =>
    rw [prs_cons] at hk ⊢
    have e : ∀ (l : List E) (p : Int × Int) (q : List (Int × Int)), sumP l (p :: q) = (eg l p.1 p.2).1 + sumP l q := fun l p q => by simp [sumP]
    have hk' : (eg l x y).2 = true ∧ okP l (prs (y :: r)) = true := by simpa [okP] using hk
    have hl : (x :: y :: r).getLast (by simp) = (y :: r).getLast (by simp) := List.getLast_cons (by simp)
    rw [e, e, ih y hk'.2, eg_flt, if_pos hk'.1, hl]
    simp only
    omega
theorem cost_flt {N : Int} {l : List E} {h : List Int} (hz : ferr N l h = 0) (p : List Int) : (cost N (flt h l) p).2 = (cost N l p).2 := by
  have h1 := chk_zero.2 (good_flt hz)
  have h2 := chk_zero.2 (ferr_good hz).1.good
  unfold cost
  rw [h1, h2, okP_flt]
  repeat' split
  all_goals rfl
theorem cost_flt_val {N : Int} {l : List E} {h : List Int} (hz : ferr N l h = 0) (p : List Int) (hc : (cost N l p).2 = 0) : ∃ hp : p ≠ [], (cost N (flt h l) p).1 = (cost N l p).1 + ht h (p.head hp) - ht h (p.getLast hp) := by
  have hc' := (cost_flt hz p).trans hc
  rw [cost_val, cost_val, if_pos hc, if_pos hc']
  obtain ⟨_, h1, _, _, h5⟩ := cost_zero.1 hc
  cases p with
  | nil => exact absurd rfl h1
  | cons x r => exact ⟨by simp, sum_flt h l x r h5⟩
end Go.Proofs.Ytpoolpaagbeokaa.JohnLaw

namespace Go.Proofs.Ytpoolpaagbeokaa.John
open Go.RowKit Go.Proofs.Ytpoolpaagbeokaa NetLaw JohnLaw Go.Proofs.Ytpoolpaagbeokaa.Net
set_option linter.unusedSimpArgs false
set_option linter.unusedVariables false

set_option maxRecDepth 100000 in
set_option maxHeartbeats 2000000 in
theorem copy_any (N : Int) (A : Option Addr) (c : Nat) (l : List E) (w : World) (hl : Sl w w.heap.size 3 ce A l) (hA : A = none → l.length = 0 ∧ c = 0) (hlen : l.length ≤ 600) :
    Calls Try.prog 38 #[.agg #[.int .i64 N, .slice A l.length c]] w fun e w' => SomeNet N l w e w' := by
  obtain ⟨i0, hi, hz0, hz1, hz2⟩ := info_parts infoEdge
  obtain ⟨w0, hw0⟩ : ∃ w0, w0 = (w.alloc (.cells #[.int .i64 N, .slice A l.length c] 52)).alloc (.cells #[.int .i64 0, .slice none 0 0] 52) := ⟨_, rfl⟩
  have hb0 : Below w.heap.size w w0 := by rw [hw0]; exact ((Below.refl _ _).alloc (Nat.le_refl _) _).alloc (by simp) _
  have hz : w0.heap.size = w.heap.size + 2 := by rw [hw0]; simp
  have q0 : w0.cell? ⟨w.heap.size, 0, none⟩ = some (.int .i64 N) := by rw [hw0]; simp [go_sem]
  have q1 : w0.cell? ⟨w.heap.size, 1, none⟩ = some (.slice A l.length c) := by rw [hw0]; simp [go_sem]
  have r2 : w0.heap[w.heap.size + 1]? = some (.cells #[.int .i64 0, .slice none 0 0] 52 (0, 0)) := by rw [hw0]; have := heap_alloc_new (w.alloc (.cells #[.int .i64 N, .slice A l.length c] 52)) (.cells #[.int .i64 0, .slice none 0 0] 52); simp at this ⊢; exact this
  have r0 := blk_cell r2 0
  have r1 := blk_cell r2 1
  have f0 := blk_free r2 0
  have f1 := blk_free r2 1
  simp only [List.getElem?_toArray, List.getElem?_cons_zero, List.getElem?_cons_succ] at r0 r1
  have hs0 := hl.keep hb0 (Nat.le_refl _)
  have HA := Lib.hid hA
  have HW := Lib.hid hw0
  have hzz : w.heap.size + 1 < w0.heap.size := by omega
  have hzz0 : w.heap.size < w0.heap.size := by omega
  clear hA hl
  go_enter Try.func38, Try.ntmps38
  go_wp2
  rw [← hw0]
  clear hw0
  go_region_law (first
      | (refine step_pushAll _ rfl (.const (.slice none 0 0)) (.tmp 6) _ rfl w0.heap.size 110 i0 _ 3 24 ce Try.underlying50 hi hz0 hz1 hz2 rfl (by decide) _ [] 0 rfl rfl Own.nil_ w.heap.size A l.length c l rfl rfl HA.out (by first | exact hs0 | exact hs0.keep (below_drewN (Below.refl _ _) 1) (Nat.le_refl _) | exact hs0.keep (below_drewN (Below.refl _ _) 2) (Nat.le_refl _)) one_ce (by omega) (by omega) (Nat.le_refl _) ?_
         intro A3 c3 w3 hown3 hgrow3 hat3
         simp only [Nat.zero_add, List.nil_append] at hown3
         have hB3 : Below w0.heap.size w0 w3 := by (first | exact (Below.refl _ _).grown hgrow3 (Nat.le_refl _) (fun k hk => by cases hk) | exact (below_drewN (Below.refl _ _) 1).grown hgrow3 (Nat.le_refl _) (fun k hk => by cases hk) | exact (below_drewN (Below.refl _ _) 2).grown hgrow3 (Nat.le_refl _) (fun k hk => by cases hk))
         have p0 := ((keepAt hB3 hzz0).1 0).trans q0
         have p1 := ((keepAt hB3 hzz0).1 1).trans q1
         have p2 := ((keepAt hB3 hzz).1 0).trans r0
         have p3 := ((keepAt hB3 hzz).1 1).trans r1
         have p4 := ((keepAt hB3 hzz).2 0).trans f0
         have p5 := ((keepAt hB3 hzz).2 1).trans f1
         clear hgrow3))
  all_goals
    go_wp2
    have hne := hown3.ne_ ((hB3.block _ hzz).trans r2) (by decide)
    refine bodyPost_ret (v := .agg #[.int .i64 N, .slice A3 l.length c3]) (by simp [results, Try.results38, go_sem, p0, p1, p2, p3]) rfl ⟨A3, c3, rfl, ?_, ?_⟩
    · exact (((hown3.mono (by omega)).setCell hne _).setCell hne _)
    · exact ((hb0.trans (hB3.mono (by omega))).setCell (by dsimp only; omega) _).setCell (by dsimp only; omega) _

/-- the first k edges with heights -/
def lk (h : List Int) (l : List E) (k : Nat) : List E := flt h (l.take k) ++ l.drop k
theorem lk_len (h : List Int) (l : List E) (k : Nat) : (lk h l k).length = l.length := by simp [lk, flt]; omega
theorem lk_zero (h : List Int) (l : List E) : lk h l 0 = l := by simp [lk, flt]
theorem lk_all (h : List Int) (l : List E) : lk h l l.length = flt h l := by simp [lk]
theorem lk_get (h : List Int) (l : List E) (k : Nat) (hk : k < l.length) (hk' : k < (lk h l k).length) : (lk h l k)[k] = l[k] := by
  have e : (lk h l k)[k]? = some l[k] := by
    unfold lk
    rw [List.getElem?_append_right (by simp [flt]; omega)]
    simp [flt, Nat.min_eq_left (Nat.le_of_lt hk), hk]
  exact Option.some.inj ((List.getElem?_eq_getElem hk').symm.trans e)
theorem lk_set (h : List Int) (l : List E) (k : Nat) (hk : k < l.length) : (lk h l k).set k (flc h l[k]) = lk h l (k + 1) := by
  unfold lk
  have e : (flt h (l.take k)).length = k := by simp [flt]; omega
  rw [List.set_append_right _ _ (by omega), e, Nat.sub_self, List.drop_eq_getElem_cons hk, List.set_cons_zero, List.take_succ_eq_append_getElem hk, flt, flt, List.map_append, List.append_assoc]
  rfl

/-- what Flat answers -/
def FlatSays (N : Int) (l : List E) (h : List Int) (w : World) (e : Ending) (w' : World) : Prop :=
  (ferr N l h ≠ 0 → e = .returned (.tuple #[.agg #[.int .i64 0, .slice none 0 0], .int .i64 (ferr N l h)])) ∧
  (ferr N l h = 0 → ∃ A c, e = .returned (.tuple #[.agg #[.int .i64 N, .slice A l.length c], .int .i64 0]) ∧ Own w' w.heap.size 110 3 ce (.slice A l.length c) (flt h l)) ∧ Below w.heap.size w w'
theorem FlatSays.no {N : Int} {l : List E} {h : List Int} {w w' : World} {e : Ending} {x : Int} (hx : ferr N l h = x) (h0 : x ≠ 0) (he : e = .returned (.tuple #[.agg #[.int .i64 0, .slice none 0 0], .int .i64 x])) (hb : Below w.heap.size w w') : FlatSays N l h w e w' :=
  ⟨fun _ => by rw [hx]; exact he, fun h => absurd (hx.symm.trans h) h0, hb⟩

end Go.Proofs.Ytpoolpaagbeokaa.John
