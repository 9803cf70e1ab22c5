/- For every net and place: BellTight answers true (Bellman and Ford's distances are tight), and the arguments read as before. No condition. -/
import Derived.Test.YthlhlglmkcbgaaaRows
import Derived.Test.YthlhlglmkcbgaaaOpen
import Derived.Test.YthlhlglmkcbgaaaBellFn
import Derived.Test.YthlhlglmkcbgaaaStdI
import Derived.BigRegion
import Derived.BigQuiet
namespace Go.Proofs.Ythlhlglmkcbgaaa.BellTightLaw
open Go.ChangeShapes Go.WideShapes Go.ChangeAt Go.RowKit Go.Proofs.Ythlhlglmkcbgaaa NetLaw BellLaw Go.Proofs.Ythlhlglmkcbgaaa.Net Go.Proofs.Ythlhlglmkcbgaaa.Bell Go.Proofs.Ythlhlglmkcbgaaa.Std
set_option linter.unusedSimpArgs false
set_option linter.unusedVariables false

theorem dg_start {n fr : Nat} (hf : fr < n) (v : Int) (v0 : 0 ≤ v) (v1 : v < n) : dg (Bell.start n fr) v = if v = fr then 0 else far := by
  have := dg_set (D := List.replicate n far) (t := (fr : Int)) (v := v) (x := 0) (by omega) (by simp; omega) v0
  rw [Int.toNat_natCast] at this
  rw [Bell.start, this]
  split
  · rfl
  · rw [dg, List.getD_eq_getElem?_getD, List.getElem?_replicate, if_pos (by omega)]
    rfl
theorem j_start {n fr : Nat} (hf : fr < n) (l : List E) : J n l fr (Bell.start n fr) := by
  refine ⟨by rw [start_len], fun v v0 v1 => ?_, ?_, fun v v0 v1 h => ?_, fun v v0 v1 hv h => ?_⟩
  · rw [dg_start hf v v0 v1]; unfold far; split <;> omega
  · rw [dg_start hf fr (by omega) (by omega), if_pos rfl]; exact Int.le_refl _
  · rw [dg_start hf v v0 v1] at h ⊢
    split at h
    · rename_i e; subst e; rw [if_pos rfl]; exact Wk.here
    · exact absurd h (Int.lt_irrefl _)
  · rw [dg_start hf v v0 v1, if_neg hv] at h
    exact absurd h (Int.lt_irrefl _)
theorem bd_start {n fr : Nat} (hf : fr < n) : Bd n (Bell.start n fr) 0 := fun v v0 v1 h => by
  rw [dg_start hf v v0 v1] at h ⊢
  split at h
  · rename_i e; rw [if_pos e]; omega
  · exact absurd h (Int.lt_irrefl _)
theorem bd_relax {N : Int} {l : List E} (hends : ∀ e ∈ l, 0 ≤ e.1 ∧ e.1 < N ∧ 0 ≤ e.2.1 ∧ e.2.1 < N) (hcost : ∀ e ∈ l, -10000 ≤ e.2.2 ∧ e.2.2 ≤ 10000) (k : Nat) (C : Int) (s : St) (h : Bd N s.1 C) (hl : (s.1.length : Int) = N) :
    Bd N (relax l k s).1 (C + k * (l.length * 10000)) := by
  induction k generalizing s C with
  | zero => simpa [relax] using h
  | succ k ih =>
    obtain ⟨b1, b2, _⟩ := Bd.fold hends hcost l (fun _ he => he) C (s.1, s.2.1, -1) h hl
    have hk : 0 ≤ (k : Int) * (l.length * 10000) := Int.mul_nonneg (by omega) (by omega)
    have e : C + ((k + 1 : Nat) : Int) * (l.length * 10000) = C + l.length * 10000 + k * (l.length * 10000) := by
      rw [Int.natCast_add, Int.add_mul]; omega
    rw [e, relax]
    split
    · exact Bd.more b1 (by omega)
    · exact ih _ (pass l s) b1 b2
theorem len_relax {N fr : Int} {l : List E} {s : St} (k : Nat) (h : J N l fr s.1) (hends : ∀ e ∈ l, 0 ≤ e.1 ∧ e.1 < N ∧ 0 ≤ e.2.1 ∧ e.2.1 < N) (hf : 0 ≤ fr) : ((relax l k s).1.length : Int) = N := (J.relax_ hends hf k s h).len
/-- all that Dist's answer keeps -/
structure Tight (n : Nat) (l : List E) (fr : Nat) (D : List Int) : Prop where
  len : D.length = n
  start : D.getD fr 0 = 0
  still : ∀ e ∈ l, ¬ (dg D e.1 < far ∧ dg D e.1 + e.2.2 < dg D e.2.1)
  into : ∀ v : Nat, v < n → v ≠ fr → D.getD v 0 < far → ∃ e ∈ l, Into D v (D.getD v 0) e
  lb : Lb n D 1000000000000
  hi : ∀ v : Nat, v < n → D.getD v 0 ≤ far
theorem dist_law {n fr : Nat} {l : List E} (hg : NetLaw.Good n l) (hf : fr < n) (h : (rl n l fr).2.2 < 0) : Tight n l fr (rl n l fr).1 := by
  have hj : J n l fr (rl n l fr).1 := J.relax_ hg.ends (by omega) n _ (j_start hf l)
  have hb : Bd n (rl n l fr).1 384000000 := by
    refine (bd_relax hg.ends hg.cost n 0 (Bell.start n fr, List.replicate n (-1), -1) (bd_start hf) (by simp [start_len])).more ?_
    have h1 := hg.len
    have h2 := hg.hi
    have h3 : (n : Int) * (l.length * 10000) ≤ 64 * (600 * 10000) := Int.mul_le_mul (by omega) (by omega) (by omega) (by omega)
    omega
  have hs := relax_still (l := l) (fun e he => (hg.ends e he).2.2.1) n (by omega) _ h
  obtain ⟨t0, t1⟩ := BellLaw.tight hj hg.ends hg.cost hb (by unfold far; omega) (by omega) (by omega) hs
  refine ⟨by have := hj.len; omega, by have := t0; rwa [dg, Int.toNat_natCast] at this, hs, fun v v1 v2 v3 => ?_, fun v v1 => ?_, fun v v1 => ?_⟩
  · have e : dg (rl n l fr).1 (v : Int) = (rl n l fr).1.getD v 0 := by rw [dg, Int.toNat_natCast]
    obtain ⟨x, hx, x1, x2, x3⟩ := t1 v (by omega) (by omega) (by omega) (by rw [e]; exact v3)
    exact ⟨x, hx, x1, x2, by rw [x3, e]⟩
  · have e : dg (rl n l fr).1 (v : Int) = (rl n l fr).1.getD v 0 := by rw [dg, Int.toNat_natCast]
    rw [← e]
    by_cases hh : dg (rl n l fr).1 v < far
    · have := hb v (by omega) (by omega) hh; omega
    · unfold far at hh; omega
  · have := hj.hi v (by omega) (by omega)
    rwa [dg, Int.toNat_natCast] at this
theorem derr_zero {N : Int} {l : List E} {fr : Int} (h : derr N l fr = 0) : NetLaw.Good N l ∧ 0 ≤ fr ∧ fr < N ∧ (rl N.toNat l fr.toNat).2.2 < 0 := by
  unfold derr at h
  by_cases h1 : chk N l = 0
  · rw [if_neg (by simpa using h1)] at h
    by_cases h2 : fr < 0 ∨ N ≤ fr
    · rw [if_pos h2] at h; exact absurd h (by decide)
    · rw [if_neg h2] at h
      by_cases h3 : 0 ≤ (rl N.toNat l fr.toNat).2.2
      · rw [if_pos h3] at h; exact absurd h (by decide)
      · exact ⟨chk_zero.1 h1, by omega, by omega, by omega⟩
  · rw [if_pos h1] at h; exact absurd h h1
theorem first_err : derr 1 [(0, 0, -1)] 0 = 6 := by decide +kernel

theorem caught_new {wr : World} {S n gl : Nat} {D : List Int} (h0 : gl < wr.heap.size) (hS : S < wr.heap.size) (r0 : wr.cell? ⟨gl, 0, none⟩ = some (.slice (some ⟨S, 0, none⟩) n n)) (r1 : ∀ i, i < n → wr.cell? ⟨S, i, none⟩ = some (.int .i64 (D.getD i 0))) (k x : Int) :
    Caught ((wr.alloc (.cells #[.int .i64 k] 3)).alloc (.cells #[.int .i64 x] 3)) wr.heap.size gl (wr.heap.size + 1) S n D k x := by
  have z1 : (wr.alloc (.cells #[.int .i64 k] 3)).heap.size = wr.heap.size + 1 := by simp
  have z2 : ((wr.alloc (.cells #[.int .i64 k] 3)).alloc (.cells #[.int .i64 x] 3)).heap.size = wr.heap.size + 1 + 1 := by simp
  have p1 : ∀ g o, g < wr.heap.size → ((wr.alloc (.cells #[.int .i64 k] 3)).alloc (.cells #[.int .i64 x] 3)).cell? ⟨g, o, none⟩ = wr.cell? ⟨g, o, none⟩ := fun g o hg =>
    (World.cell?_alloc_past _ _ _ (by rw [z1]; exact Nat.lt_succ_of_lt hg)).trans (World.cell?_alloc_past _ _ _ hg)
  refine ⟨?_, (p1 _ _ h0).trans r0, ?_, fun i hi => (p1 _ _ hS).trans (r1 i hi), ?_, ?_, ?_, ?_⟩
  · exact (World.cell?_alloc_past _ _ _ (by rw [z1]; exact Nat.lt_succ_self _)).trans (by rw [cell_new]; rfl)
  · rw [← z1, cell_new]; rfl
  · rw [z2]; omega
  · rw [z2]; omega
  · rw [z2]; omega
  · rw [z2]; omega

set_option maxRecDepth 100000 in
set_option maxHeartbeats 4000000 in
theorem walk (w : World) (N : Int) (A : Option Addr) (c : Nat) (l : List E) (hA : Arg w 3 ce A c l) (a : Int) (ha : -9223372036854775808 ≤ a ∧ a ≤ 9223372036854775807) :
    Calls Try.prog 10 #[.agg #[.int .i64 N, .slice A l.length c], .int .i64 a] w fun e w' => e = .returned (.bool true) ∧ Below w.heap.size w w' := by
  have hs := hA.sl
  have hll : l.length ≤ 9223372036854775807 := Nat.le_trans hA.cap hA.max
  clear hA
  have hw0 : Below w.heap.size w (w.alloc (.cells #[.int .i64 N, .slice A l.length c] 57)) := (Below.refl _ _).alloc (Nat.le_refl _) _
  have key0 : ∀ (W : World) (g : Nat), Sl W W.heap.size 3 ce (some ⟨g, 0, none⟩) [(0, 0, -1)] → Calls Try.prog 34 #[.agg #[.int .i64 1, .slice (some ⟨g, 0, none⟩) 1 1], .int .i64 0] W fun e w' => e = .returned (.tuple #[.slice none 0 0, .int .i64 6]) ∧ Below W.heap.size W w' := fun W g h => by
    refine (dist_any 1 (some ⟨g, 0, none⟩) 1 [(0, 0, -1)] 0 W h (by decide)).mono ?_
    rintro e w' ⟨h1, _, h3⟩
    rw [first_err] at h1
    exact ⟨h1 (by decide), h3⟩
  have KEY0 := Lib.hid key0
  clear key0
  have key1 := fun W h => dist_any N A c l a W h hll
  by_cases hz : derr N l a = 0
  · obtain ⟨hg, a0, a1, hneg⟩ := derr_zero hz
    have hN1 := hg.lo
    have hN2 := hg.hi
    obtain ⟨n, rfl⟩ := Int.eq_ofNat_of_zero_le (show 0 ≤ N by omega)
    obtain ⟨f, rfl⟩ := Int.eq_ofNat_of_zero_le a0
    simp only [Int.toNat_natCast] at hneg
    have ht := dist_law hg (show f < n by omega) hneg
    have key2 : ∀ W, Sl W W.heap.size 3 ce A l → Calls Try.prog 34 #[.agg #[.int .i64 n, .slice A l.length c], .int .i64 f] W fun e w' => ∃ S, W.heap.size ≤ S ∧ e = .returned (.tuple #[.slice (some ⟨S, 0, none⟩) n n, .int .i64 0]) ∧ Own w' W.heap.size 3 1 ci (.slice (some ⟨S, 0, none⟩) n n) (rl n l f).1 ∧ Below W.heap.size W w' := fun W h => by
      refine (key1 W h).mono ?_
      rintro e w' ⟨_, h2, h3⟩
      obtain ⟨S, s1, s2, s3, s4⟩ := h2 hz
      simp only [Int.toNat_natCast] at s2 s3
      exact ⟨S, s1, s2, s3, h3⟩
    generalize (rl n l f).1 = D at *
    have KEY1 := Lib.hid key2
    have HT := Lib.hid ht
    have HG := Lib.hid hg
    clear key1 key2 hz hneg ht hg
    go_enter Try.func10, Try.ntmps10
    go_wp2_with fail
    refine (KEY0.out _ _ (sl_new' (by decide) _ #[.int .i64 0, .int .i64 0, .int .i64 (-1)] _ _ (by simp) rfl)).mono ?_
    rintro e w1 ⟨rfl, hb1⟩
    have B1 : Below (w.heap.size + 1) (w.alloc (.cells #[.int .i64 n, .slice A l.length c] 57)) w1 := ((Below.refl _ _).alloc (by simp) _).trans (hb1.mono (by simp))
    have Z1 : w.heap.size + 1 ≤ w1.heap.size := by have := hb1.size; simp at this; omega
    have H1 : Below w.heap.size w w1 := hw0.trans (B1.mono (Nat.le_succ _))
    obtain ⟨cc1, _⟩ := keepAt B1 (Nat.lt_succ_self _)
    have q0 := cc1 0
    have q1 := cc1 1
    simp at q0 q1
    clear hb1 cc1
    go_wp2_with fail
    refine (KEY1.out _ ((hs.keep H1 (Nat.le_refl _)).more (by omega))).mono ?_
    rintro e w2 ⟨S, hS, rfl, own2, hb2⟩
    have B2 := B1.trans (hb2.mono Z1)
    have H2 : Below w.heap.size w w2 := hw0.trans (B2.mono (Nat.le_succ _))
    obtain ⟨_, hS2⟩ := own2.base_ S rfl
    have z2 : w.heap.size < w2.heap.size := by omega
    obtain ⟨cc2, _⟩ := keepAt B2 (Nat.lt_succ_self _)
    have q0' := cc2 0
    have q1' := cc2 1
    simp at q0' q1'
    have hf : f < n := by omega
    have ht := HT.out
    obtain ⟨dc, _⟩ := own_at1 ht.len own2 hf
    rw [ht.start] at dc
    have hb2' : Below (w2.heap.size + 1) (w2.alloc (.cells #[.slice (some ⟨S, 0, none⟩) n n] 32)) (w2.alloc (.cells #[.slice (some ⟨S, 0, none⟩) n n] 32)) := Below.refl _ _
    have hct0 : ∀ wr, Below (w2.heap.size + 1) (w2.alloc (.cells #[.slice (some ⟨S, 0, none⟩) n n] 32)) wr → wr.cell? ⟨w2.heap.size, 0, none⟩ = some (.slice (some ⟨S, 0, none⟩) n n) ∧ (∀ i, i < n → wr.cell? ⟨S, i, none⟩ = some (.int .i64 (D.getD i 0))) ∧ w2.heap.size + 1 ≤ wr.heap.size ∧ Sl wr w.heap.size 3 ce A l ∧ Below w.heap.size w wr ∧ wr.cell? ⟨w.heap.size, 1, none⟩ = some (.slice A l.length c) := fun wr hB => by
      obtain ⟨c1, _⟩ := keepN hB
      have hH := (H2.alloc (by omega) (.cells #[.slice (some ⟨S, 0, none⟩) n n] 32)).trans (hB.mono (by omega))
      refine ⟨by rw [c1 _ _ (by omega)]; simp, fun i hi => ?_, by have := hB.size; simp at this; omega, hs.keep hH (Nat.le_refl _), hH, ?_⟩
      · rw [c1 _ _ (by omega), World.cell?_alloc_past _ _ _ (by exact hS2)]
        exact (own_at1 ht.len own2 hi).1
      · rw [c1 _ _ (by omega), World.cell?_alloc_past _ _ _ (by exact z2)]
        exact q1'
    have HC := Lib.hid hct0
    clear hb2 cc2 q0 q1 own2 B1 B2 H1 H2 ht hct0 hb2' hs
    go_wp2
    go_loopw [48] (fun i wr => ∃ k : Nat, k ≤ l.length ∧ i = .int .i64 k ∧ Below (w2.heap.size + 1) (w2.alloc (.cells #[.slice (some ⟨S, 0, none⟩) n n] 32)) wr) (fun i _ => l.length - (intOf i).toNat)
    case atStart => exact ⟨0, Nat.zero_le _, rfl, Below.refl _ _⟩
    case round =>
      obtain ⟨k, hk, rfl, hB⟩ := hrel
      obtain ⟨r0, r1, r2, r3, r4, r5⟩ := HC.out wr hB
      clear q0' q1' dc
      have hzr : w2.heap.size < wr.heap.size := by omega
      have hSr : S < wr.heap.size := by omega
      by_cases hlt : k < l.length
      · obtain ⟨b, off, f', t', co, rfl, hbB, he, hcf, hct, hcc⟩ := r3.atE hlt
        have hg := HG.out
        have hen := hg.ends _ (List.getElem_mem hlt)
        have hco := hg.cost _ (List.getElem_mem hlt)
        have hst := HT.out.still _ (List.getElem_mem hlt)
        rw [he] at hen hco hst
        obtain ⟨f0, f1, t0, t1⟩ := hen
        simp only at f0 f1 t0 t1 hco hst
        obtain ⟨f', rfl⟩ := Int.eq_ofNat_of_zero_le f0
        obtain ⟨t', rfl⟩ := Int.eq_ofNat_of_zero_le t0
        have x1 := r1 f' (by omega)
        have y1 := r1 t' (by omega)
        have lx := HT.out.lb f' (by omega)
        simp only [dg, Int.toNat_natCast] at hst
        generalize D.getD f' 0 = x at *
        generalize D.getD t' 0 = y at *
        have hbw : b < wr.heap.size := by omega
        have hE := hB.alloc (by omega) (.cells #[.int .i64 f', .int .i64 t', .int .i64 co] 60)
        obtain ⟨co0, co1⟩ := hco
        clear r1 r3 r4 hB he hg f0 t0
        by_cases hx : x < 1099511627776
        · have hy : ¬ x + co < y := fun h => hst ⟨hx, h⟩
          have hd : decide (x + co < y) = false := by simp; omega
          have hd1 : decide (y > x + co) = false := by simp; omega
          clear hst
          go_wp2
          go_quiet (fail)
          go_wp2
          go_roundw
          case rel => exact ⟨k + 1, by omega, by go_num, below_drewN hE _⟩
          case measure => simp [intOf]; omega
        · have hd : decide (x < 1099511627776) = false := by simp; omega
          clear hst hx
          go_wp2
          go_quiet (fail)
          go_wp2
          go_roundw
          case rel => exact ⟨k + 1, by omega, by go_num, below_drewN hE _⟩
          case measure => simp [intOf]; omega
      · obtain rfl : k = l.length := by omega
        clear r1 r3 r4 hlt
        go_wp2
        go_loopw [77] (fun i wr => ∃ k : Nat, k ≤ n ∧ i = .int .i64 k ∧ Below (w2.heap.size + 1) (w2.alloc (.cells #[.slice (some ⟨S, 0, none⟩) n n] 32)) wr) (fun i _ => n - (intOf i).toNat)
        case atStart => exact ⟨0, Nat.zero_le _, rfl, hB⟩
        case round =>
          clear hB r0 r2 r5 hzr hSr
          obtain ⟨k, hk, rfl, hB⟩ := hrel
          obtain ⟨r0, r1, r2, r3, r4, r5⟩ := HC.out wr hB
          have hzr : w2.heap.size < wr.heap.size := by omega
          have hzr0 : w.heap.size < wr.heap.size := by omega
          have hSr : S < wr.heap.size := by omega
          by_cases hlt : k < n
          · have x1 := r1 k hlt
            have ht := HT.out
            have hin := ht.into k hlt
            have hlb := ht.lb
            have hE := (hB.alloc r2 (.cells #[.int .i64 k] 3)).alloc (by simp; omega) (.cells #[.int .i64 (D.getD k 0)] 3)
            have hcau : Caught ((wr.alloc (.cells #[.int .i64 k] 3)).alloc (.cells #[.int .i64 (D.getD k 0)] 3)) wr.heap.size w2.heap.size (wr.heap.size + 1) S n D k (D.getD k 0) :=
              caught_new hzr hSr r0 r1 _ _
            have hsx := ((r3.keep (Below.refl _ _) (Nat.le_refl _)).keep (((Below.refl _ _).alloc (by omega) (.cells #[.int .i64 k] 3)).alloc (by simp; omega) (.cells #[.int .i64 (D.getD k 0)] 3)) (Nat.le_refl _)).more (show w.heap.size ≤ ((wr.alloc (.cells #[.int .i64 k] 3)).alloc (.cells #[.int .i64 (D.getD k 0)] 3)).heap.size by simp; omega)
            have hg := HG.out
            have hkf : (k : Int) ≠ f → D.getD k 0 < far → ∀ W', Below ((wr.alloc (.cells #[.int .i64 k] 3)).alloc (.cells #[.int .i64 (D.getD k 0)] 3)).heap.size ((wr.alloc (.cells #[.int .i64 k] 3)).alloc (.cells #[.int .i64 (D.getD k 0)] 3)) W' → Calls Try.prog 35 #[.slice A l.length c, fnv wr.heap.size w2.heap.size (wr.heap.size + 1)] W' fun e w' => e = .returned (.bool true) ∧ Below W'.heap.size W' w' := fun h1 h2 W' hW =>
              contains_fn _ _ _ S n D k (D.getD k 0) A c l W' (hcau.keep hW) ((hsx.keep hW (Nat.le_refl _)).more hW.size) hg.len hg.ends hg.cost hlb (hin (by omega) h2)
            have KF := Lib.hid hkf
            generalize D.getD k 0 = x at *
            clear r1 r3 r4 hB ht hin hlb hcau hsx hg hkf
            by_cases hkf : (k : Int) = f
            · have hd : ((k : Int) != f) = false := by simp; omega
              clear KF hkf
              go_wp2
              go_roundw
              case rel => exact ⟨k + 1, by omega, by go_num, hE⟩
              case measure => simp [intOf]; omega
            · have hd : ((k : Int) != f) = true := by rw [bne_iff_ne]; exact hkf
              by_cases hx : x < 1099511627776
              · have kf := KF.out hkf hx
                unfold fnv at kf
                have KC := Lib.hid kf
                have z0 : w2.heap.size + 1 ≤ ((wr.alloc (.cells #[.int .i64 k] 3)).alloc (.cells #[.int .i64 x] 3)).heap.size := by simp; omega
                clear KF kf hkf
                go_wp2_with fail
                refine (KC.out _ (Below.refl _ _)).mono ?_
                rintro e w5 ⟨rfl, hb5⟩
                have B5 := hE.trans (hb5.mono z0)
                clear hb5 hE
                go_wp2
                go_roundw
                case rel => exact ⟨k + 1, by omega, by go_num, B5⟩
                case measure => simp [intOf]; omega
              · have hd2 : decide (x < 1099511627776) = false := by simp; omega
                clear KF hkf hx
                go_wp2
                go_roundw
                case rel => exact ⟨k + 1, by omega, by go_num, hE⟩
                case measure => simp [intOf]; omega
          · obtain rfl : k = n := by omega
            clear r1 r3
            go_wp2
            go_ret
            exact ⟨rfl, r4⟩
  · have key2 : ∀ W, Sl W W.heap.size 3 ce A l → Calls Try.prog 34 #[.agg #[.int .i64 N, .slice A l.length c], .int .i64 a] W fun e w' => ∃ x, x ≠ 0 ∧ e = .returned (.tuple #[.slice none 0 0, .int .i64 x]) ∧ Below W.heap.size W w' := fun W h => by
      refine (key1 W h).mono ?_
      rintro e w' ⟨h1, _, h3⟩
      exact ⟨_, hz, h1 hz, h3⟩
    have KEY1 := Lib.hid key2
    clear key1 key2 hz
    go_enter Try.func10, Try.ntmps10
    go_wp2_with fail
    refine (KEY0.out _ _ (sl_new' (by decide) _ #[.int .i64 0, .int .i64 0, .int .i64 (-1)] _ _ (by simp) rfl)).mono ?_
    rintro e w1 ⟨rfl, hb1⟩
    have B1 : Below (w.heap.size + 1) (w.alloc (.cells #[.int .i64 N, .slice A l.length c] 57)) w1 := ((Below.refl _ _).alloc (by simp) _).trans (hb1.mono (by simp))
    have Z1 : w.heap.size + 1 ≤ w1.heap.size := by have := hb1.size; simp at this; omega
    have H1 : Below w.heap.size w w1 := hw0.trans (B1.mono (Nat.le_succ _))
    obtain ⟨cc1, _⟩ := keepAt B1 (Nat.lt_succ_self _)
    have q0 := cc1 0
    have q1 := cc1 1
    simp at q0 q1
    clear hb1 cc1
    go_wp2_with fail
    refine (KEY1.out _ ((hs.keep H1 (Nat.le_refl _)).more (by omega))).mono ?_
    rintro e w2 ⟨x, hx, rfl, hb2⟩
    have hx1 : (x != 0) = true := by rw [bne_iff_ne]; exact hx
    have H2 : Below w.heap.size w w2 := H1.trans (hb2.mono (by omega))
    have z2 := H2.size
    clear hb2 q0 q1 hx hs B1 H1
    go_wp2
    go_ret
    exact ⟨rfl, H2.alloc z2 _⟩

theorem own : ownKnob Try.prog.godebug = none := by kernel_rfl
theorem laidOut : laidOutB Try.prog = true := by kernel_rfl

set_option maxRecDepth 100000 in
theorem lifted (os : Os) (started : os.Started) (H : Type) (enc : TypeId × Value → H) :
    ReturnsInHanded {} Try.checked os 10 .any (Rows.bellTightSpec.pre6 enc Try.prog Try.f10 Rows.bellTightRow.domain false) (Rows.bellTightSpec.post enc Try.prog Try.f10 false true false false) := by
  refine returnsInHanded_of_change (C := Try.checked) own started (by kernel_rfl) Try.func10
    (ChangeSpec.witness6 (enc := enc) (C := Try.checked) false ⟨#[], #[.agg #[.int .i64 0, .slice none 0 0], .int .i64 0], []⟩ 8 (by kernel_rfl) (by kernel_rfl) (by kernel_rfl) (by kernel_rfl)) ?_
  intro W base args ds gs before hval0 hW hcnd _
  have hval : ∀ (j : Nat) t v, Try.f10.params[j]? = some t → args[j]? = some v → Value.okWide Try.prog W .any base t v := hval0
  have hW' := hW
  obtain ⟨p, q, hA0, hV, rfl, hfz, hnd⟩ := hW
  have hA : DataW.TrodAll enc Try.prog W 0 (fun _ => true) true Try.f10.params.toList args.toList ds p := hA0
  rw [Try.params10] at hA hval
  obtain ⟨v0, vs0, d0, ds0, p0, q0, hargs, rfl, rfl, h0, r0⟩ := trodAll_cons hA
  obtain ⟨v1, vs1, d1, ds1, p1, q1, rfl, rfl, rfl, h1, r1⟩ := trodAll_cons r0
  obtain ⟨rfl, rfl, rfl⟩ := trodAll_nil r1
  obtain rfl : args = #[v0, v1] := by cases args; simp_all
  obtain ⟨rfl, rfl⟩ := trodVars_none hV
  obtain ⟨N0, A0, c0, l0, dd0, rfl, hN0, hG0, hb0, rfl, hd0⟩ := open_net Try.underlying57 (by kernel_rfl) (by kernel_rfl) Try.underlying3 Try.underlying55 Try.underlying60 (by kernel_rfl) (by kernel_rfl) Try.underlying3 Try.underlying3 Try.underlying3 (hval 0 57 v0 rfl rfl) h0
  obtain ⟨a1, rfl, rfl, rfl, wa1⟩ := open_int Try.underlying3 (hval 1 3 v1 rfl rfl) h1
  refine (walk W N0 A0 c0 l0 hG0 a1 (wf_bd wa1)).mono fun e W' ⟨he, hB⟩ => ?_
  subst he
  exact ⟨_, rfl, post_of_law laidOut rfl Try.underlying4 rfl (by intro t ht; rw [Try.params10] at ht; simp at ht; rcases ht with rfl | rfl <;> exact ⟨by kernel_rfl, of_decide_eq_true (by kernel_rfl)⟩) hW' rfl hB⟩

theorem holds : Rows.BellTightSaid :=
  OpenClaim.holds_of_wide 10 Try.f10 rfl rfl rfl rfl rfl rfl rfl ⟨rfl, rfl, rfl, rfl, rfl⟩ rfl rfl rfl rfl rfl (by kernel_rfl) Try.func10 (by kernel_rfl)
    (of_decide_eq_true (by kernel_rfl)) (by unfold Func.isWrapper; first | (rw [if_pos (by decide +kernel)]; kernel_rfl) | (rw [if_neg (by decide +kernel)]; exact ⟨rfl, rfl⟩))
    (fun os started H enc _ => lifted os started H enc)
#print axioms holds
end Go.Proofs.Ythlhlglmkcbgaaa.BellTightLaw
