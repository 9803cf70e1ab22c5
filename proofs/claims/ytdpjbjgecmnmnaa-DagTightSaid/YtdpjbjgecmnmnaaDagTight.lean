/- For every net: DagTight answers true (longest costs satisfy all edge inequalities with equality for some edge, and are not below 0), and the net reads as before. No condition. -/
import Derived.Test.YtdpjbjgecmnmnaaRows
import Derived.Test.YtdpjbjgecmnmnaaOpen
import Derived.Test.YtdpjbjgecmnmnaaDagLong
import Derived.Test.YtdpjbjgecmnmnaaRefs
import Derived.Test.YtdpjbjgecmnmnaaCfnTight
import Derived.BigQuiet
namespace Go.Proofs.Ytdpjbjgecmnmnaa.DagTightLaw
open Go.ChangeShapes Go.WideShapes Go.ChangeAt Go.RowKit Go.Proofs.Ytdpjbjgecmnmnaa NetLaw BellLaw DagLaw Go.Proofs.Ytdpjbjgecmnmnaa.Net Go.Proofs.Ytdpjbjgecmnmnaa.Dag Go.Proofs.Ytdpjbjgecmnmnaa.Refs Go.Proofs.Ytdpjbjgecmnmnaa.Std
set_option linter.unusedSimpArgs false
set_option linter.unusedVariables false

theorem getD_dg (D : List Int) (v : Nat) : D.getD v 0 = dg D (v : Int) := by rw [dg, Int.toNat_natCast]
theorem good2 : NetLaw.Good ((2 : Nat) : Int) [(0, 1, 5)] := ⟨by decide, by decide, by decide, by decide, by decide⟩
theorem long2 (W : World) (g : Nat) (h : Sl W W.heap.size 3 ce (some ⟨g, 0, none⟩) [(0, 1, 5)]) :
    Calls Try.prog 39 #[.agg #[.int .i64 2, .slice (some ⟨g, 0, none⟩) 1 1]] W fun e w' => ∃ S, e = .returned (.tuple #[.slice (some ⟨S, 0, none⟩) 2 2, .int .i64 0]) ∧ Own w' W.heap.size 3 1 ci (.slice (some ⟨S, 0, none⟩) 2 2) [0, 5] ∧ Below W.heap.size W w' := by
  refine (long_yes 2 (some ⟨g, 0, none⟩) 1 [(0, 1, 5)] W h good2).mono ?_
  rintro e w' ⟨h1, hb⟩
  rcases h1 with ⟨_, out, hst⟩ | ⟨S, D, he, ho, out, ht, hlb⟩
  · exfalso
    have h0 : (0 : Int) ∈ out := by
      by_cases h1 : (0 : Int) ∈ out
      · exact h1
      · obtain ⟨x, hx, h2, _⟩ := hst.back 0 (by decide) (by decide) h1
        simp at hx; subst hx; exact absurd h2 (by decide)
    have h1 : (1 : Int) ∈ out := by
      by_cases h1 : (1 : Int) ∈ out
      · exact h1
      · obtain ⟨x, hx, _, h2⟩ := hst.back 1 (by decide) (by decide) h1
        simp at hx; subst hx; exact absurd h0 h2
    obtain ⟨v, v0, v1, hv⟩ := hst.some_
    rcases (show v = 0 ∨ v = 1 by omega) with rfl | rfl
    · exact hv h0
    · exact hv h1
  · have hD : D = [0, 5] := by
      have h1 := hlb.len
      match D, h1, hlb with
      | [a, b], _, hlb =>
        have ha := (hlb.lo 0 (by decide) (by decide)).1
        have hb := (hlb.lo 1 (by decide) (by decide)).1
        have hr := hlb.rel (0, 1, 5) (by simp) (ht.mem (by decide) (by decide))
        have t0 := hlb.tight 0 (by decide) (by decide)
        have t1 := hlb.tight 1 (by decide) (by decide)
        simp [dg] at ha hb hr t0 t1
        have e1 : a = 0 := by omega
        subst e1
        have e2 : b = 5 := by have := t1 (by omega); omega
        rw [e2]
    subst hD
    exact ⟨S, he, ho, hb⟩
/-- what the closure asks -/
def into (D : List Int) (v x : Int) (e : E) : Bool := decide (e.2.1 = v) && decide (dg D e.1 + e.2.2 = x)
set_option maxRecDepth 100000 in
set_option maxHeartbeats 1000000 in
theorem into_any (gv gl gc S n : Nat) (D : List Int) (v co : Int) (f : Nat) (t k : Int) (w : World) (h0 : w.cell? ⟨gv, 0, none⟩ = some (.int .i64 v)) (h1 : w.cell? ⟨gl, 0, none⟩ = some (.slice (some ⟨S, 0, none⟩) n n)) (h2 : w.cell? ⟨gc, 0, none⟩ = some (.int .i64 co)) (h3 : w.cell? ⟨S, f, none⟩ = some (.int .i64 (dg D f))) (hf : f < n) (s0 : gv < w.heap.size) (s1 : gl < w.heap.size) (s2 : gc < w.heap.size) (s3 : S < w.heap.size) (hx : 0 ≤ dg D f ∧ dg D f ≤ 1000000) (hk : -10000 ≤ k ∧ k ≤ 10000) :
    Calls Try.prog 40 #[.agg #[.int .i64 f, .int .i64 t, .int .i64 k], .pointer (some ⟨gv, 0, none⟩), .pointer (some ⟨gl, 0, none⟩), .pointer (some ⟨gc, 0, none⟩)] w fun e w' => e = .returned (.bool (into D v co (f, t, k))) ∧ Below w.heap.size w w' := by
  have hbd : into D v co (f, t, k) = (decide (t = v) && decide (dg D f + k = co)) := rfl
  rw [hbd]
  clear hbd
  generalize dg D (f : Int) = x at *
  obtain ⟨x0, x1⟩ := hx
  obtain ⟨k0, k1⟩ := hk
  by_cases htv : t = v
  · subst htv
    go_enter Try.func40, Try.ntmps40
    go_wp2
    go_quiet (fail)
    go_wp2
    go_ret
    exact ⟨by first | rfl | (rw [decide_eq_true rfl]; simp; rfl) | simp, below_drewN ((Below.refl _ _).alloc (Nat.le_refl _) _) _⟩
  · have hd2 : (t == v) = false := by rw [beq_eq_false_iff_ne]; exact htv
    have hdd : decide (t = v) = false := decide_eq_false htv
    rw [hdd, Bool.false_and]
    clear hdd
    go_enter Try.func40, Try.ntmps40
    go_wp2
    go_quiet (fail)
    go_wp2
    go_ret
    exact ⟨rfl, below_drewN ((Below.refl _ _).alloc (Nat.le_refl _) _) _⟩
/-- all that Long's answer keeps -/
structure Tl (n : Nat) (l : List E) (D : List Int) : Prop where
  len : D.length = n
  lo : ∀ v : Int, 0 ≤ v → v < n → 0 ≤ dg D v ∧ dg D v ≤ 1000000
  rel : ∀ e ∈ l, dg D e.1 + e.2.2 ≤ dg D e.2.1
  tight : ∀ v : Int, 0 ≤ v → v < n → 0 < dg D v → l.any (into D v (dg D v)) = true
theorem tl_of {n : Nat} {l : List E} {out D : List Int} (hg : NetLaw.Good n l) (ht : Topo n l out) (h : LB n l out D) : Tl n l D := by
  refine ⟨h.len, fun v v0 v1 => ?_, fun e he => ?_, fun v v0 v1 hv => ?_⟩
  · have := h.lo v v0 v1
    have := ht.len
    have := hg.hi
    omega
  · obtain ⟨a, b, _, _⟩ := hg.ends e he
    exact h.rel e he (ht.mem a b)
  · obtain ⟨e, he, h1, _, h3⟩ := h.tight v v0 v1 hv
    rw [List.any_eq_true]
    exact ⟨e, he, by simp [into, h1, h3]⟩

set_option maxRecDepth 100000 in
set_option maxHeartbeats 4000000 in
theorem walk (w : World) (N : Int) (A : Option Addr) (c : Nat) (l : List E) (hA : Arg w 3 ce A c l) :
    Calls Try.prog 11 #[.agg #[.int .i64 N, .slice A l.length c]] w fun e w' => e = .returned (.bool true) ∧ Below w.heap.size w w' := by
  have hs := hA.sl
  have hll : l.length ≤ 9223372036854775807 := Nat.le_trans hA.cap hA.max
  clear hA
  have hw0 : Below w.heap.size w (w.alloc (.cells #[.int .i64 N, .slice A l.length c] 24)) := (Below.refl _ _).alloc (Nat.le_refl _) _
  have key0 := fun W g h => long2 W g h
  have key1 := fun W A A' c c' B B' h h' => equal_int' A A' 2 2 c c' [0, 5] [0, 5] B B' W h h' rfl rfl (by decide) true (by simp)
  have KEY0 := Lib.hid key0
  have KEY1 := Lib.hid key1
  clear key0 key1
  by_cases hx : chk N l = 0
  · have hg := chk_zero.1 hx
    have hN1 := hg.lo
    have hN2 := hg.hi
    obtain ⟨n, rfl⟩ := Int.eq_ofNat_of_zero_le (show 0 ≤ N by omega)
    have k2 := fun W h => long_yes n A c l W h hg
    have K2 := Lib.hid k2
    have HG := Lib.hid hg
    clear k2 hx hg
    go_enter Try.func11, Try.ntmps11
    go_wp2_with fail
    refine (two_any _).mono ?_
    rintro e w1 ⟨g, rfl, own1, hb1⟩
    have B1 : Below (w.heap.size + 1) (w.alloc (.cells #[.int .i64 n, .slice A l.length c] 24)) w1 := hb1.mono (by simp)
    have Z1 : w.heap.size + 1 ≤ w1.heap.size := by have := hb1.size; simp at this; omega
    clear hb1
    go_wp2_with fail
    refine (KEY0.out _ _ own1.sl.2).mono ?_
    rintro e w2 ⟨S2, rfl, own2, hb2⟩
    have B2 := B1.trans (hb2.mono Z1)
    have Z2 : w.heap.size + 1 ≤ w2.heap.size := by have := hb2.size; omega
    clear hb2 own1 B1 Z1
    go_wp2_with fail
    refine (KEY1.out _ _ _ _ _ _ _ (own2.alloc _).sl.2 (sl_new' (by decide) w2 #[.int .i64 0, .int .i64 5] _ _ rfl rfl)).mono ?_
    rintro e w3 ⟨rfl, n3, rfl⟩
    have B3 := below_drewN (B2.alloc Z2 (.cells #[.int .i64 0, .int .i64 5] 3)) n3
    have Z3 : w.heap.size + 1 ≤ (w2.alloc (.cells #[.int .i64 0, .int .i64 5] 3)).heap.size := by simp; omega
    generalize (w2.alloc (.cells #[.int .i64 0, .int .i64 5] 3)) = w3 at B3 Z3 ⊢
    clear own2 B2 Z2
    have z3 : w.heap.size < w3.heap.size := by omega
    have H3 := hw0.trans (B3.mono (Nat.le_succ _))
    obtain ⟨cc3, _⟩ := keepAt B3 (Nat.lt_succ_self _)
    have q0 := cc3 0
    have q1 := cc3 1
    simp at q0 q1
    clear cc3
    go_wp2_with fail
    refine (K2.out _ ((hs.keep H3 (Nat.le_refl _)).more (by simp; omega))).mono ?_
    rintro e w4 ⟨hor, hb4⟩
    have B2 := B3.trans (hb4.mono Z3)
    have H2 : Below w.heap.size w w4 := hw0.trans (B2.mono (Nat.le_succ _))
    have z2 : w.heap.size < w4.heap.size := by have := hb4.size; simp at this; omega
    rcases hor with ⟨rfl, _⟩ | ⟨S, D, rfl, own2, out, htop, hlb⟩
    · clear q0 q1 B3 H3 z3 Z3 hb4
      go_wp2
      go_ret
      exact ⟨rfl, H2.alloc H2.size _⟩
    · have htl := tl_of HG.out htop hlb
      have HT := Lib.hid htl
      have hS := (own2.base_ S rfl).1
      have hS2 := (own2.base_ S rfl).2
      clear q0 q1 B3 H3 z3 Z3 hb4 htop hlb
      obtain ⟨cc2, _⟩ := keepAt B2 (Nat.lt_succ_self _)
      have q0' := cc2 0
      have q1' := cc2 1
      simp at q0' q1'
      have hct0 : ∀ wr, Below (w4.heap.size + 1) (w4.alloc (.cells #[.slice (some ⟨S, 0, none⟩) n n] 25)) wr → wr.cell? ⟨w4.heap.size, 0, none⟩ = some (.slice (some ⟨S, 0, none⟩) n n) ∧ (∀ i, i < n → wr.cell? ⟨S, i, none⟩ = some (.int .i64 (dg D (i : Int)))) ∧ w4.heap.size + 1 ≤ wr.heap.size ∧ Sl wr w.heap.size 3 ce A l ∧ Below w.heap.size w wr ∧ wr.cell? ⟨w.heap.size, 1, none⟩ = some (.slice A l.length c) := fun wr hB => by
        obtain ⟨c1, _⟩ := keepN hB
        have hH := (H2.alloc (by omega) (.cells #[.slice (some ⟨S, 0, none⟩) n n] 25)).trans (hB.mono (by omega))
        refine ⟨by rw [c1 _ _ (by omega)]; simp, fun i hi => ?_, by have := hB.size; simp at this; omega, hs.keep hH (Nat.le_refl _), hH, ?_⟩
        · rw [c1 _ _ (by omega), World.cell?_alloc_past _ _ _ (by exact hS2), ← getD_dg]
          exact (own_at1 htl.len own2 hi).1
        · rw [c1 _ _ (by omega), World.cell?_alloc_past _ _ _ (by exact z2)]
          exact q1'
      have HC := Lib.hid hct0
      clear cc2 own2 B2 H2 htl hct0 hs
      go_wp2
      go_loopw [42] (fun i wr => ∃ k : Nat, k ≤ l.length ∧ i = .int .i64 k ∧ Below (w4.heap.size + 1) (w4.alloc (.cells #[.slice (some ⟨S, 0, none⟩) n n] 25)) wr) (fun i _ => l.length - (intOf i).toNat)
      case atStart => exact ⟨0, Nat.zero_le _, rfl, Below.refl _ _⟩
      case round =>
        obtain ⟨k, hk, rfl, hB⟩ := hrel
        obtain ⟨r0, r1, r2, r3, r4, r5⟩ := HC.out wr hB
        clear q0' q1'
        have hzr : w4.heap.size < wr.heap.size := by omega
        have hSr : S < wr.heap.size := by omega
        by_cases hlt : k < l.length
        · obtain ⟨b, off, f', t', co, rfl, hbB, he, hcf, hct, hcc⟩ := r3.atE hlt
          have hg := HG.out
          have hen := hg.ends _ (List.getElem_mem hlt)
          have hco := hg.cost _ (List.getElem_mem hlt)
          have hst := HT.out.rel _ (List.getElem_mem hlt)
          rw [he] at hen hco hst
          obtain ⟨f0, f1, t0, t1⟩ := hen
          simp only at f0 f1 t0 t1 hco hst
          obtain ⟨f', rfl⟩ := Int.eq_ofNat_of_zero_le f0
          obtain ⟨t', rfl⟩ := Int.eq_ofNat_of_zero_le t0
          have x1 := r1 f' (by omega)
          have y1 := r1 t' (by omega)
          have lx := HT.out.lo f' (by omega) (by omega)
          generalize dg D (f' : Int) = x at *
          generalize dg D (t' : Int) = y at *
          have hbw : b < wr.heap.size := by omega
          have hE := hB.alloc (by omega) (.cells #[.int .i64 f', .int .i64 t', .int .i64 co] 60)
          obtain ⟨co0, co1⟩ := hco
          obtain ⟨lx0, lx1⟩ := lx
          have hd : decide (y < x + co) = false := by simp; omega
          clear r1 r3 r4 hB he hg f0 t0 hst
          go_wp2
          go_quiet (fail)
          go_wp2
          go_roundw
          case rel => exact ⟨k + 1, by omega, by go_num, below_drewN hE _⟩
          case measure => simp [intOf]; omega
        · obtain rfl : k = l.length := by omega
          clear r1 r3 r4 hlt
          go_wp2
          go_loopw [63] (fun i wr => ∃ k : Nat, k ≤ n ∧ i = .int .i64 k ∧ Below (w4.heap.size + 1) (w4.alloc (.cells #[.slice (some ⟨S, 0, none⟩) n n] 25)) wr) (fun i _ => n - (intOf i).toNat)
          case atStart => exact ⟨0, Nat.zero_le _, rfl, hB⟩
          case round =>
            clear hB r0 r2 r5 hzr hSr
            obtain ⟨k, hk, rfl, hB⟩ := hrel
            obtain ⟨r0, r1, r2, r3, r4, r5⟩ := HC.out wr hB
            have hzr : w4.heap.size < wr.heap.size := by omega
            have hzr0 : w.heap.size < wr.heap.size := by omega
            have hSr : S < wr.heap.size := by omega
            by_cases hlt : k < n
            · have x1 := r1 k hlt
              have hlk := (HT.out.lo k (by omega) (by omega)).1
              have hE := (hB.alloc r2 (.cells #[.int .i64 k] 3)).alloc (by simp; omega) (.cells #[.int .i64 (dg D k)] 3)
              have hX : Below wr.heap.size wr ((wr.alloc (.cells #[.int .i64 k] 3)).alloc (.cells #[.int .i64 (dg D k)] 3)) := ((Below.refl _ _).alloc (Nat.le_refl _) _).alloc (by simp) _
              have hb1 := blk_alloc (heap_alloc_new wr (.cells #[.int .i64 k] 3)) (.cells #[.int .i64 (dg D k)] 3)
              have hb2 := heap_alloc_new (wr.alloc (.cells #[.int .i64 k] 3)) (.cells #[.int .i64 (dg D k)] 3)
              have hz1 : (wr.alloc (.cells #[.int .i64 k] 3)).heap.size = wr.heap.size + 1 := by simp
              rw [hz1] at hb2
              have hok : CfnTight.Ok wr.heap.size w4.heap.size (wr.heap.size + 1) l (into D k (dg D k)) ((wr.alloc (.cells #[.int .i64 k] 3)).alloc (.cells #[.int .i64 (dg D k)] 3)) := fun W hW i hi f t co he => by
                obtain ⟨f0, f1, t0, t1⟩ := HG.out.ends _ (List.getElem_mem hi)
                have hco := HG.out.cost _ (List.getElem_mem hi)
                rw [he] at f0 f1 t0 t1 hco
                simp only at f0 f1 t0 t1 hco
                obtain ⟨f, rfl⟩ := Int.eq_ofNat_of_zero_le f0
                have hbW := hX.trans (hW.mono hX.size)
                have hx1 := blk_below hb1 hW (lt_of_block hb1)
                have hx2 := blk_below hb2 hW (lt_of_block hb2)
                have a1 := blk_cell hx1 0
                have a2 := blk_cell hx2 0
                simp only [List.getElem?_toArray, List.getElem?_cons_zero, List.getElem?_cons_succ] at a1 a2
                obtain ⟨kw, _⟩ := keepAt hbW hzr
                obtain ⟨kS, _⟩ := keepAt hbW hSr
                have hzW := hbW.size
                exact into_any _ _ _ S n D k (dg D k) f t co W a1 ((kw 0).trans r0) a2 ((kS f).trans (r1 f (by omega))) (by omega) (lt_of_block hx1) (by omega) (lt_of_block hx2) (by omega) (HT.out.lo f (by omega) (by omega)) hco
              have hkf : 0 < dg D k → ∀ W', W' = ((wr.alloc (.cells #[.int .i64 k] 3)).alloc (.cells #[.int .i64 (dg D k)] 3)) → Calls Try.prog 37 #[.slice A l.length c, CfnTight.fnv wr.heap.size w4.heap.size (wr.heap.size + 1)] W' fun e w' => e = .returned (.bool true) ∧ Below W'.heap.size W' w' := fun h1 W' hW => by
                subst hW
                exact CfnTight.contains_fn _ _ _ A c l _ _ ((r3.keep hX (by omega)).more (by simp; omega)) hll hok true (HT.out.tight k (by omega) (by omega) h1)
              have KF := Lib.hid hkf
              generalize dg D (k : Int) = x at *
              clear r1 r3 r4 hB hok hkf hb1 hb2 hz1 hX
              by_cases hx : 0 < x
              · have kf := KF.out hx
                unfold CfnTight.fnv at kf
                have KC := Lib.hid kf
                have z0 : w4.heap.size + 1 ≤ ((wr.alloc (.cells #[.int .i64 k] 3)).alloc (.cells #[.int .i64 x] 3)).heap.size := by simp; omega
                have hd1 : decide (x < 0) = false := by simp; omega
                have hd2 : decide (x > 0) = true := by simp; omega
                clear KF kf
                go_wp2_with fail
                refine (KC.out _ rfl).mono ?_
                rintro e w5 ⟨rfl, hb5⟩
                have B5 := hE.trans (hb5.mono z0)
                clear hb5 hE
                go_wp2
                go_roundw
                case rel => exact ⟨k + 1, by omega, by go_num, B5⟩
                case measure => simp [intOf]; omega
              · have hd1 : decide (x < 0) = false := by simp; omega
                have hd2 : decide (x > 0) = false := by simp; omega
                clear KF
                go_wp2
                go_roundw
                case rel => exact ⟨k + 1, by omega, by go_num, hE⟩
                case measure => simp [intOf]; omega
            · obtain rfl : k = n := by omega
              clear r1 r3
              go_wp2
              go_ret
              exact ⟨rfl, r4⟩
  · have k2 := fun W h => long_no N A c l W h hll hx
    have hne : (chk N l != 0) = true := by rw [bne_iff_ne]; exact hx
    generalize chk N l = er at *
    have K2 := Lib.hid k2
    clear k2 hx
    go_enter Try.func11, Try.ntmps11
    go_wp2_with fail
    refine (two_any _).mono ?_
    rintro e w1 ⟨g, rfl, own1, hb1⟩
    have B1 : Below (w.heap.size + 1) (w.alloc (.cells #[.int .i64 N, .slice A l.length c] 24)) w1 := hb1.mono (by simp)
    have Z1 : w.heap.size + 1 ≤ w1.heap.size := by have := hb1.size; simp at this; omega
    clear hb1
    go_wp2_with fail
    refine (KEY0.out _ _ own1.sl.2).mono ?_
    rintro e w2 ⟨S2, rfl, own2, hb2⟩
    have B2 := B1.trans (hb2.mono Z1)
    have Z2 : w.heap.size + 1 ≤ w2.heap.size := by have := hb2.size; omega
    clear hb2 own1 B1 Z1
    go_wp2_with fail
    refine (KEY1.out _ _ _ _ _ _ _ (own2.alloc _).sl.2 (sl_new' (by decide) w2 #[.int .i64 0, .int .i64 5] _ _ rfl rfl)).mono ?_
    rintro e w3 ⟨rfl, n3, rfl⟩
    have B3 := below_drewN (B2.alloc Z2 (.cells #[.int .i64 0, .int .i64 5] 3)) n3
    have Z3 : w.heap.size + 1 ≤ (w2.alloc (.cells #[.int .i64 0, .int .i64 5] 3)).heap.size := by simp; omega
    generalize (w2.alloc (.cells #[.int .i64 0, .int .i64 5] 3)) = w3 at B3 Z3 ⊢
    clear own2 B2 Z2
    have z3 : w.heap.size < w3.heap.size := by omega
    have H3 := hw0.trans (B3.mono (Nat.le_succ _))
    obtain ⟨cc3, _⟩ := keepAt B3 (Nat.lt_succ_self _)
    have q0 := cc3 0
    have q1 := cc3 1
    simp at q0 q1
    clear cc3
    go_wp2_with fail
    refine (K2.out _ ((hs.keep H3 (Nat.le_refl _)).more (by simp; omega))).mono ?_
    rintro e w4 ⟨rfl, hb4⟩
    have H4 := H3.trans (hb4.mono (by simp; omega))
    have z4 := H4.size
    clear hb4 B3 H3 z3 Z3 q0 q1
    go_wp2
    go_ret
    exact ⟨rfl, H4.alloc z4 _⟩

theorem own : ownKnob Try.prog.godebug = none := by kernel_rfl
theorem laidOut : laidOutB Try.prog = true := by kernel_rfl

set_option maxRecDepth 100000 in
theorem lifted (os : Os) (started : os.Started) (H : Type) (enc : TypeId × Value → H) :
    ReturnsInHanded {} Try.checked os 11 .any (Rows.dagTightSpec.pre6 enc Try.prog Try.f11 Rows.dagTightRow.domain false) (Rows.dagTightSpec.post enc Try.prog Try.f11 false true false false) := by
  refine returnsInHanded_of_change (C := Try.checked) own started (by kernel_rfl) Try.func11
    (ChangeSpec.witness6 (enc := enc) (C := Try.checked) false ⟨#[], #[.agg #[.int .i64 0, .slice none 0 0]], []⟩ 8 (by kernel_rfl) (by kernel_rfl) (by kernel_rfl) (by kernel_rfl)) ?_
  intro W base args ds gs before hval0 hW hcnd _
  have hval : ∀ (j : Nat) t v, Try.f11.params[j]? = some t → args[j]? = some v → Value.okWide Try.prog W .any base t v := hval0
  have hW' := hW
  obtain ⟨p, q, hA0, hV, rfl, hfz, hnd⟩ := hW
  have hA : DataW.TrodAll enc Try.prog W 0 (fun _ => true) true Try.f11.params.toList args.toList ds p := hA0
  rw [Try.params11] at hA hval
  obtain ⟨v0, vs0, d0, ds0, p0, q0, hargs, rfl, rfl, h0, r0⟩ := trodAll_cons hA
  obtain ⟨rfl, rfl, rfl⟩ := trodAll_nil r0
  obtain rfl : args = #[v0] := by cases args; simp_all
  obtain ⟨rfl, rfl⟩ := trodVars_none hV
  obtain ⟨N0, A0, c0, l0, dd0, rfl, hN0, hG0, hb0, rfl, hd0⟩ := open_net Try.underlying24 (by kernel_rfl) (by kernel_rfl) Try.underlying3 Try.underlying22 Try.underlying60 (by kernel_rfl) (by kernel_rfl) Try.underlying3 Try.underlying3 Try.underlying3 (hval 0 24 v0 rfl rfl) h0
  refine (walk W N0 A0 c0 l0 hG0).mono fun e W' ⟨he, hB⟩ => ?_
  subst he
  exact ⟨_, rfl, post_of_law laidOut rfl Try.underlying4 rfl (by intro t ht; rw [Try.params11] at ht; simp at ht; subst ht <;> exact ⟨by kernel_rfl, of_decide_eq_true (by kernel_rfl)⟩) hW' rfl hB⟩

theorem holds : Rows.DagTightSaid :=
  OpenClaim.holds_of_wide 11 Try.f11 rfl rfl rfl rfl rfl rfl rfl ⟨rfl, rfl, rfl, rfl, rfl⟩ rfl rfl rfl rfl rfl (by kernel_rfl) Try.func11 (by kernel_rfl)
    (of_decide_eq_true (by kernel_rfl)) (by unfold Func.isWrapper; first | (rw [if_pos (by decide +kernel)]; kernel_rfl) | (rw [if_neg (by decide +kernel)]; exact ⟨rfl, rfl⟩))
    (fun os started H enc _ => lifted os started H enc)
#print axioms holds
end Go.Proofs.Ytdpjbjgecmnmnaa.DagTightLaw
