/- The walk of floyd.closed with the closures of floyd.Reach. -/
import Derived.Test.YtjhnlkmdkjlkdaaVMat
import Derived.Test.YtjhnlkmdkjlkdaaVSink
import Derived.StillTailTactics
import Derived.Outline
import Derived.Deep.OwnRows
import Derived.BigRegion
import Derived.BigQuiet
import Derived.Deep.CutRange
import Derived.Deep.RegionHeld3
namespace Go.Proofs.Ytjhnlkmdkjlkdaa.FloydReach
open Go.RowKit Go.Proofs.Ytjhnlkmdkjlkdaa NetLaw BellLaw FloydLaw Go.Proofs.Ytjhnlkmdkjlkdaa.Net Go.Proofs.Ytjhnlkmdkjlkdaa.Mat
set_option linter.unusedSimpArgs false
set_option linter.unusedVariables false
def q (z : Bool) : Value := (.bool z)
def yes (_ : E) : Bool := true

theorem or_any (a b : Bool) (w : World) : Calls Try.prog 49 #[.bool a, .bool b] w fun e w' => e = .returned (.bool (or a b)) ∧ w' = w := by
  cases a <;> cases b
  all_goals
    go_enter Try.func49, Try.ntmps49
    go_wp2
    go_ret
    exact ⟨rfl, rfl⟩

theorem then_any (a b : Bool) (w : World) : Calls Try.prog 50 #[.bool a, .bool b] w fun e w' => e = .returned (.bool (and a b)) ∧ w' = w := by
  cases a <;> cases b
  all_goals
    go_enter Try.func50, Try.ntmps50
    go_wp2
    go_ret
    exact ⟨rfl, rfl⟩

theorem edge_any (f t c : Int) (w : World) : Calls Try.prog 52 #[.agg #[.int .i64 f, .int .i64 t, .int .i64 c]] w fun e w' => e = .returned (.bool true) ∧ Below w.heap.size w w' := by
  go_enter Try.func52, Try.ntmps52
  go_wp2
  go_ret
  exact ⟨rfl, by first | exact Below.refl _ _ | exact (Below.refl _ _).alloc (Nat.le_refl _) _⟩

/-- what all rounds keep -/
structure FlSt (w wr : World) (n : Nat) (A : Option Addr) (c : Nat) (l : List E) (m : Nat) (F : Nat → Nat) (M : Mx Bool) : Prop where
  mt : Mt wr 38 4 q w.heap.size (w.heap.size + 1 + 1) n m F M
  net : wr.heap[w.heap.size]? = some (.cells #[.int .i64 n, .slice A l.length c] 24 (0, 0))
  ring : wr.heap[w.heap.size + 1]? = some (.cells #[.bool false, .bool true, .func (.func 50) #[] #[], .func (.func 49) #[] #[]] 87 (0, 0))
  lo : Below w.heap.size w wr
section
variable {w wr wx : World} {n : Nat} {A : Option Addr} {c : Nat} {l : List E} {m : Nat} {F : Nat → Nat} {M M' : Mx Bool}
theorem FlSt.congr (h : FlSt w wr n A c l m F M) (he : ∀ v j, v < m → j < n → M v j = M' v j) : FlSt w wr n A c l m F M' := ⟨h.mt.congr he, h.net, h.ring, h.lo⟩
theorem FlSt.far (h : FlSt w wr n A c l m F M) {v : Nat} (hv : v < m) : F v ≠ w.heap.size ∧ F v ≠ w.heap.size + 1 := by
  obtain ⟨_, cs, hb, _⟩ := h.mt.row v hv
  constructor
  · intro e
    rw [e, h.net] at hb
    injection hb with hb
    injection hb with _ ht
    exact absurd ht (by decide)
  · intro e
    rw [e, h.ring] at hb
    injection hb with hb
    injection hb with _ ht
    exact absurd ht (by decide)
theorem FlSt.set (h : FlSt w wr n A c l m F M) {v j : Nat} (hv : v < m) (hj : j < n) (x : Bool) : FlSt w (wr.setCell ⟨F v, j, none⟩ (q x)) n A c l m F (set2 M v j x) :=
  ⟨h.mt.set hv hj x, blk_far h.net (by exact fun e => (h.far hv).1 e.symm) _, blk_far h.ring (by exact fun e => (h.far hv).2 e.symm) _, h.lo.setCell (by exact (h.mt.row v hv).1) _⟩
theorem FlSt.keep (h : FlSt w wr n A c l m F M) (hb : Below wr.heap.size wr wx) : FlSt w wx n A c l m F M :=
  ⟨h.mt.keep hb, blk_below h.net hb (lt_of_block h.net), blk_below h.ring hb (lt_of_block h.ring), h.lo.trans (hb.mono h.lo.size)⟩
theorem FlSt.drew (h : FlSt w wr n A c l m F M) : FlSt w wr.drew n A c l m F M := ⟨h.mt.drew, h.net, h.ring, h.lo.drew⟩
theorem FlSt.add (h : FlSt w wr n A c l m F M) (hm : m < n) : FlSt w ((wr.setCell ⟨w.heap.size + 1 + 1, m, none⟩ (.slice (some ⟨wr.heap.size, 0, none⟩) n n)).alloc (.cells (madeCells #[.bool false] n) 4)) n A c l (m + 1) (fun v => if v = m then wr.heap.size else F v) (fun a b => if a = m then false else M a b) :=
  ⟨h.mt.add hm h.lo.size false _ (made_size _ _) (fun j hj => made_get _ _ _ hj) rfl, blk_alloc (blk_far h.net (by dsimp only; omega) _) _, blk_alloc (blk_far h.ring (by dsimp only; omega) _) _, (h.lo.setCell (by dsimp only; omega) _).alloc (by simp [World.setCell]; exact h.lo.size) _⟩
end
theorem eds_take {l : List E} {k : Nat} (h : k < l.length) (M : Mx Bool) : eds or yes (l.take (k + 1)) M = ed1 or yes (eds or yes (l.take k) M) l[k] := by
  rw [List.take_succ_eq_append_getElem h]
  unfold eds
  rw [List.foldl_append]
  rfl

set_option maxRecDepth 100000 in
set_option maxHeartbeats 4000000 in
theorem closed_any (n : Nat) (A : Option Addr) (c : Nat) (l : List E) (w : World) (hl : Sl w w.heap.size 3 ce A l) (hg : NetLaw.Good n l) :
    Calls Try.prog 51 #[.agg #[.int .i64 n, .slice A l.length c], .agg #[.bool false, .bool true, .func (.func 50) #[] #[], .func (.func 49) #[] #[]], .func (.func 52) #[] #[]] w fun e w' => ∃ S F, e = .returned (.slice (some ⟨S, 0, none⟩) n n) ∧ Mt w' 38 4 q w.heap.size S n n F (clo or and false true yes n l) ∧ Below w.heap.size w w' := by
  have hN := hg.hi
  have hlen := hg.len
  have hmk : ∀ w, (Instr.makeSlice 32 (.int .i64 (n : Int)) (.int .i64 (n : Int))).run Try.prog w = .ok (.slice (some ⟨w.heap.size, 0, none⟩) n n) (w.alloc (.cells (madeCells #[.slice none 0 0] n) 38)) :=
    run_make_row' (P := Try.prog) 32 38 (.slice none 0 0) 24 Try.underlying32 (by kernel_rfl) rfl .i64 .i64 n (by omega) (by omega)
  have hmk2 : ∀ w, (Instr.makeSlice 38 (.int .i64 (n : Int)) (.int .i64 (n : Int))).run Try.prog w = .ok (.slice (some ⟨w.heap.size, 0, none⟩) n n) (w.alloc (.cells (madeCells #[.bool false] n) 4)) :=
    run_make_row' (P := Try.prog) 38 4 (.bool false) 1 Try.underlying38 (by kernel_rfl) rfl .i64 .i64 n (by omega) (by omega)
  have st0 : FlSt w (((w.alloc (.cells #[.int .i64 n, .slice A l.length c] 24)).alloc (.cells #[.bool false, .bool true, .func (.func 50) #[] #[], .func (.func 49) #[] #[]] 87)).alloc (.cells (madeCells #[.slice none 0 0] n) 38)) n A c l 0 (fun _ => 0) (ini false true) :=
    ⟨Mt.start _ 38 4 q w.heap.size n _ (made_size _ _) (fun v hv => ⟨_, made_get _ _ _ hv⟩) (by decide) _ _ (by simp) (by omega), blk_alloc (blk_alloc (heap_alloc_new w _) _) _, by have h := blk_alloc (heap_alloc_new (w.alloc (.cells #[.int .i64 n, .slice A l.length c] 24)) (.cells #[.bool false, .bool true, .func (.func 50) #[] #[], .func (.func 49) #[] #[]] 87)) (.cells (madeCells #[.slice none 0 0] n) 38); simp at h ⊢; exact h,
     (((Below.refl _ _).alloc (Nat.le_refl _) _).alloc (by simp) _).alloc (by simp; omega) _⟩
  have ST0 := Lib.hid st0
  have HG := Lib.hid hg
  clear st0 hg
  go_enter Try.func51, Try.ntmps51
  go_wp2
  go_loopw [20] (fun i wr => ∃ (k : Nat) (F : Nat → Nat), k ≤ n ∧ i = .int .i64 k ∧ FlSt w wr n A c l k F (ini false true)) (fun i _ => n - (intOf i).toNat)
  case atStart => exact ⟨0, _, Nat.zero_le _, rfl, ST0.out⟩
  case round =>
    clear ST0
    obtain ⟨k, F, hk, rfl, hst⟩ := hrel
    have n0 := blk_cell hst.net 0
    have n1 := blk_cell hst.net 1
    have r0 := blk_cell hst.ring 0
    have r1 := blk_cell hst.ring 1
    simp only [List.getElem?_toArray, List.getElem?_cons_zero, List.getElem?_cons_succ] at n0 n1 r0 r1
    have hzS := hst.mt.lt
    have hz0 : w.heap.size < wr.heap.size := by omega
    have hz1 : w.heap.size + 1 < wr.heap.size := by omega
    by_cases hlt : k < n
    · obtain ⟨⟨u0, hu⟩, hf⟩ := hst.mt.there hlt
      have hadd := hst.add hlt
      have HADD := Lib.hid hadd
      have HST := Lib.hid hst
      clear hadd hst
      have hsz : (wr.setCell ⟨w.heap.size + 1 + 1, k, none⟩ (.slice (some ⟨wr.heap.size, 0, none⟩) n n)).heap.size = wr.heap.size := by simp [World.setCell]
      have HSZ := Lib.hid hsz
      clear hsz
      obtain ⟨F', hF'⟩ : ∃ F' : Nat → Nat, F' = fun v => if v = k then wr.heap.size else F v := ⟨_, rfl⟩
      rw [← hF'] at HADD
      have HF' := Lib.hid hF'
      clear hF'
      go_wp2
      go_loopw [34] (fun j wx => ∃ b : Nat, b ≤ n ∧ j = .int .i64 b ∧ FlSt w wx n A c l (k + 1) F' (fun x y => if x = k then (if y < b then false else false) else (ini false true) x y)) (fun j _ => n - (intOf j).toNat)
      case atStart => exact ⟨0, Nat.zero_le _, rfl, HADD.out.congr (fun v j hv hj => by simp)⟩
      case round =>
        obtain ⟨b, hb, rfl, hst⟩ := hrel
        clear n0 n1 r0 r1 hz0 hz1 hu hf hzS HADD HST
        have n0 := blk_cell hst.net 0
        have n1 := blk_cell hst.net 1
        have r0 := blk_cell hst.ring 0
        have r1 := blk_cell hst.ring 1
        have r2 := blk_cell hst.ring 2
        have r3 := blk_cell hst.ring 3
        simp only [List.getElem?_toArray, List.getElem?_cons_zero, List.getElem?_cons_succ] at n0 n1 r0 r1 r2 r3
        have hzS := hst.mt.lt
        have hz0 : w.heap.size < wr.heap.size := by omega
        have hz1 : w.heap.size + 1 < wr.heap.size := by omega
        have hh := hst.mt.head (v := k) (by omega)
        by_cases hltb : b < n
        · obtain ⟨cc, cf⟩ := hst.mt.cell (v := k) (j := b) (by omega) hltb
          have hset := ((hst.set (v := k) (j := b) (by omega) hltb false).drew).congr (M' := fun x y => if x = k then (if y < b + 1 then false else false) else (ini false true) x y) (fun v j hv hj => by
            unfold set2
            by_cases e1 : v = k
            · subst e1
              by_cases e2 : j = b
              · subst e2; simp
              · simp only [e2, and_false, if_false, if_true]
                by_cases e3 : j < b
                · rw [if_pos e3, if_pos (by omega)]
                · rw [if_neg e3, if_neg (by omega)]
            · simp only [e1, false_and, if_false])
          have HSET := Lib.hid hset
          generalize (if k = k then (if b < b then false else false) else (ini false true) k b) = old at cc
          clear hset hst
          unfold q at cc HSET
          go_wp2
          go_still_tail 8, (by kernel_rfl)
          change wpList _ _ _ _ _ wr.drew
          go_wp2
          go_roundw
          case rel => exact ⟨b + 1, by omega, by go_num, HSET.out⟩
          case measure => simp [intOf]; omega
        · obtain rfl : b = n := by omega
          obtain ⟨cc, cf⟩ := hst.mt.cell (v := k) (j := k) (by omega) hlt
          have hset := ((hst.set (v := k) (j := k) (by omega) hlt true).drew).congr (M' := (ini false true)) (fun v j hv hj => fill_row _ _ _ _ _ _ _ hj)
          have HSET := Lib.hid hset
          generalize (if k = k then (if k < b then false else false) else (ini false true) k k) = old at cc
          clear hset hst
          unfold q at cc HSET
          go_wp2
          go_still_tail 8, (by kernel_rfl)
          change wpList _ _ _ _ _ wr.drew
          go_wp2
          go_roundw
          case rel => exact ⟨k + 1, F', by omega, by go_num, HSET.out⟩
          case measure => simp [intOf]; omega
    · obtain rfl : k = n := by omega
      have hst' : FlSt w wr k A c l k F (eds or yes (l.take 0) (ini false true)) := hst
      have HST := Lib.hid hst'
      clear hst hst'
      go_wp2
      go_loopw [58] (fun i wx => ∃ e : Nat, e ≤ l.length ∧ i = .int .i64 e ∧ FlSt w wx k A c l k F (eds or yes (l.take e) (ini false true))) (fun i _ => l.length - (intOf i).toNat)
      case atStart => exact ⟨0, Nat.zero_le _, rfl, HST.out⟩
      case round =>
        obtain ⟨x, hx, rfl, hst⟩ := hrel
        clear n0 n1 r0 r1 hz0 hz1 hzS HST
        have n0 := blk_cell hst.net 0
        have n1 := blk_cell hst.net 1
        have r0 := blk_cell hst.ring 0
        have r1 := blk_cell hst.ring 1
        have r2 := blk_cell hst.ring 2
        have r3 := blk_cell hst.ring 3
        simp only [List.getElem?_toArray, List.getElem?_cons_zero, List.getElem?_cons_succ] at n0 n1 r0 r1 r2 r3
        have hzS := hst.mt.lt
        have hz0 : w.heap.size < wr.heap.size := by omega
        have hz1 : w.heap.size + 1 < wr.heap.size := by omega
        by_cases hltx : x < l.length
        · obtain ⟨b, off, f, t, co, rfl, hbB, he, hcf, hct, hcc⟩ := (hl.keep hst.lo (Nat.le_refl _)).atE hltx
          have hbw : b < wr.heap.size := by omega
          have hen := HG.out.ends _ (List.getElem_mem hltx)
          rw [he] at hen
          obtain ⟨f0, f1, t0, t1⟩ := hen
          simp only at f0 f1 t0 t1
          obtain ⟨f, rfl⟩ := Int.eq_ofNat_of_zero_le f0
          obtain ⟨t, rfl⟩ := Int.eq_ofNat_of_zero_le t0
          have hfk : f < k := by omega
          have htk : t < k := by omega
          have hh := hst.mt.head (v := f) hfk
          obtain ⟨cc, cf⟩ := hst.mt.cell (v := f) (j := t) hfk htk
          have hrl := hst.mt.rlt (v := f) hfk
          have hrS := hst.mt.apart (v := f) hfk
          have hrN := (hst.far (v := f) hfk).1
          have hrR := (hst.far (v := f) hfk).2
          have hnext := eds_take (M := (ini false true)) hltx
          rw [he] at hnext
          unfold ed1 at hnext
          simp only [Int.toNat_natCast] at hnext
          have HST := Lib.hid hst
          have HNX := Lib.hid hnext
          obtain ⟨old, hold⟩ : ∃ old, old = eds or yes (l.take x) (ini false true) f t := ⟨_, rfl⟩
          rw [← hold] at cc
          have HOLD := Lib.hid hold
          unfold q at cc
          clear hst hnext he hold f0 t0
          go_wp2
          go_upto_region 16 with fail
          refine Sink.wp_region_sink 20 23 (fun w' => w'.cell? ⟨w.heap.size + 1 + 1, f, none⟩ = some (.slice (some ⟨F f, 0, none⟩) k k) ∧ w'.cell? ⟨wr.heap.size, 0, none⟩ = some (.int .i64 f) ∧ w'.cell? ⟨wr.heap.size, 1, none⟩ = some (.int .i64 t) ∧ w'.cell? ⟨wr.heap.size, 2, none⟩ = some (.int .i64 co) ∧ w'.cell? ⟨w.heap.size + 1, 3, none⟩ = some (.func (.func 49) #[] #[]) ∧ w'.cell? ⟨F f, t, none⟩ = some (.bool old)) (by kernel_rfl) (by kernel_rfl) ?_ (fun hHeld => ?_)
          · go_keep
          simp only [List.take_succ_cons, List.take_zero, List.drop_succ_cons, List.drop_zero]
          repeat
            (refine Sink.Head.cons ?_ (by rfl) (fun w' hSw => ?_) ?_
             rotate_left
             · ((try dsimp only at hSw); go_split_ands; go_simp; try with_reducible rfl)
             simp only [Act.put, List.setIfInBounds_toArray, List.set_cons_zero, List.set_cons_succ])
          refine Sink.Head.nil ?_
          refine Sink.Tail.cons (fun K hK => ?_)
          go_simp
          go_at_call 52
          refine (edge_any _ _ _ _).mono ?_
          rintro e wc ⟨rfl, hbc⟩
          go_wp2_with fail
          have HB : Below wr.heap.size wr wc := (((Below.refl _ _).alloc (Nat.le_refl _) _).drew).trans (hbc.mono (by simp))
          have kp : ∀ b o u, b < wr.heap.size + 1 → _ = some u → wc.cell? ⟨b, o, none⟩ = some u := fun b o u hb hu => ((keepAt (hbc.mono (show wr.heap.size + 1 ≤ _ by simp)) hb).1 o).trans hu
          have kf : wc.frozen? ⟨F f, t, none⟩ = false := ((keepAt HB hrl).2 t).trans cf
          obtain ⟨s1, s2, s3, s4, s5, s6⟩ := hHeld
          refine hK.out _ _ ⟨kp _ _ _ (by omega) s1, kp _ _ _ (by omega) s2, kp _ _ _ (by omega) s3, kp _ _ _ (by omega) s4, kp _ _ _ (by omega) s5, kp _ _ _ (by omega) s6⟩ (fun hH2 => ?_)
          clear hK K kp s1 s2 s3 s4 s5 s6
          refine Sink.Tail.cons (fun K hK => ?_)
          go_simp
          go_at_call 49
          refine (or_any _ _ _).mono ?_
          rintro e wd ⟨rfl, rfl⟩
          go_wp2_with fail
          refine hK.out _ _ hH2 (fun hH3 => ?_)
          clear hK K hH2
          refine Sink.Tail.cons (fun K hK => ?_)
          go_simp
          refine hK.out _ _ hH3 (fun hH4 => ?_)
          clear hK K hH3
          obtain ⟨s1, s2, s3, s4, s5, s6⟩ := hH4
          refine Sink.Tail.one ?_
          have HBH := Lib.hid HB
          clear HB hbc
          go_wp2
          refine NoPanic.normal ?_
          go_wp2
          go_roundw
          case rel =>
            refine ⟨x + 1, by omega, by go_num, ?_⟩
            rw [HNX.out]
            have hs2 := (HST.out.keep HBH.out).set hfk htk true
            have e : ∀ (b : Bool) (x : E), or b (yes x) = true := fun b x => by simp [yes]
            rw [e]
            exact hs2
          case measure => simp [intOf]; omega
        · obtain rfl : x = l.length := by omega
          rw [List.take_length] at hst
          have hst' : FlSt w wr k A c l k F (out or and k (eds or yes l (ini false true)) 0) := hst
          have HST := Lib.hid hst'
          clear hst hst' hl
          go_wp2
          go_loopw [88] (fun i wx => ∃ e : Nat, e ≤ k ∧ i = .int .i64 e ∧ FlSt w wx k A c l k F (out or and k (eds or yes l (ini false true)) e)) (fun i _ => k - (intOf i).toNat)
          case atStart => exact ⟨0, Nat.zero_le _, rfl, HST.out⟩
          case round =>
            obtain ⟨x, hx, rfl, hst⟩ := hrel
            clear n0 n1 r0 r1 r2 r3 hz0 hz1 hzS HST
            by_cases hltx : x < k
            · have hst2 : FlSt w wr k A c l k F (mid or and k x (out or and k (eds or yes l (ini false true)) x) 0) := hst
              have HST := Lib.hid hst2
              clear hst hst2
              go_wp2
              go_loopw [93] (fun i wx => ∃ e : Nat, e ≤ k ∧ i = .int .i64 e ∧ FlSt w wx k A c l k F (mid or and k x (out or and k (eds or yes l (ini false true)) x) e)) (fun i _ => k - (intOf i).toNat)
              case atStart => exact ⟨0, Nat.zero_le _, rfl, HST.out⟩
              case round =>
                obtain ⟨i, hi, rfl, hst⟩ := hrel
                clear HST
                by_cases hlti : i < k
                · have hst2 : FlSt w wr k A c l k F (inn or and x i (mid or and k x (out or and k (eds or yes l (ini false true)) x) i) 0) := hst
                  have HST := Lib.hid hst2
                  clear hst hst2
                  go_wp2
                  go_loopw [98] (fun j wx => ∃ e : Nat, e ≤ k ∧ j = .int .i64 e ∧ FlSt w wx k A c l k F (inn or and x i (mid or and k x (out or and k (eds or yes l (ini false true)) x) i) e)) (fun j _ => k - (intOf j).toNat)
                  case atStart => exact ⟨0, Nat.zero_le _, rfl, HST.out⟩
                  case round =>
                    obtain ⟨j, hj, rfl, hst⟩ := hrel
                    clear HST
                    by_cases hltj : j < k
                    · obtain ⟨C, hC⟩ : ∃ C, C = (inn or and x i (mid or and k x (out or and k (eds or yes l (ini false true)) x) i) j) := ⟨_, rfl⟩
                      have hnext : (inn or and x i (mid or and k x (out or and k (eds or yes l (ini false true)) x) i) (j + 1)) = set2 C i j (or (C i j) (and (C i x) (C x j))) := by rw [hC]; rfl
                      rw [← hC] at hst
                      clear hC
                      have n0 := blk_cell hst.net 0
                      have n1 := blk_cell hst.net 1
                      have r0 := blk_cell hst.ring 0
                      have r1 := blk_cell hst.ring 1
                      have r2 := blk_cell hst.ring 2
                      have r3 := blk_cell hst.ring 3
                      simp only [List.getElem?_toArray, List.getElem?_cons_zero, List.getElem?_cons_succ] at n0 n1 r0 r1 r2 r3
                      have hzS := hst.mt.lt
                      have hz0 : w.heap.size < wr.heap.size := by omega
                      have hz1 : w.heap.size + 1 < wr.heap.size := by omega
                      have g1 := hst.mt.head (v := i) hlti
                      have g2 := hst.mt.head (v := x) hltx
                      obtain ⟨c1, f1⟩ := hst.mt.cell (v := i) (j := j) hlti hltj
                      obtain ⟨c2, _⟩ := hst.mt.cell (v := i) (j := x) hlti hltx
                      obtain ⟨c3, _⟩ := hst.mt.cell (v := x) (j := j) hltx hltj
                      have hset := (hst.set (v := i) (j := j) hlti hltj (or (C i j) (and (C i x) (C x j)))).drew
                      have HSET := Lib.hid hset
                      have HNX := Lib.hid hnext
                      unfold q at c1 c2 c3 HSET
                      clear hset hnext hst
                      go_wp2
                      refine wp_region_still_tail 33 (by kernel_rfl) (by kernel_rfl) ?_
                      simp only [List.take_succ_cons, List.take_zero, List.drop_succ_cons, List.drop_zero]
                      repeat still_step
                      still_call (then_any _ _ _)
                      repeat still_step
                      still_call (or_any _ _ _)
                      repeat still_step
                      refine wpStill_nil ?_
                      change wpList _ _ _ _ _ wr.drew
                      go_wp2
                      go_roundw
                      case rel => exact ⟨j + 1, by omega, by go_num, by rw [HNX.out]; exact HSET.out⟩
                      case measure => simp [intOf]; omega
                    · obtain rfl : j = k := by omega
                      have hst2 : FlSt w wr j A c l j F (mid or and j x (out or and j (eds or yes l (ini false true)) x) (i + 1)) := hst
                      have HST := Lib.hid hst2
                      clear hst hst2
                      go_wp2
                      go_roundw
                      case rel => exact ⟨i + 1, by omega, by go_num, HST.out⟩
                      case measure => simp [intOf]; omega
                · obtain rfl : i = k := by omega
                  have hst2 : FlSt w wr i A c l i F (out or and i (eds or yes l (ini false true)) (x + 1)) := hst
                  have HST := Lib.hid hst2
                  clear hst hst2
                  go_wp2
                  go_roundw
                  case rel => exact ⟨x + 1, by omega, by go_num, HST.out⟩
                  case measure => simp [intOf]; omega
            · obtain rfl : x = k := by omega
              have HST := Lib.hid hst
              clear hst
              go_wp2
              go_ret
              exact ⟨w.heap.size + 1 + 1, F, rfl, HST.out.mt, HST.out.lo⟩
end Go.Proofs.Ytjhnlkmdkjlkdaa.FloydReach
