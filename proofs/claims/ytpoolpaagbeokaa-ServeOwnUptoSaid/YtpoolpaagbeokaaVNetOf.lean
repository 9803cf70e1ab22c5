/- Plain facts on the net of a grid: no Go in sight. -/
/- The walk of net.Of. -/
import Derived.Test.YtpoolpaagbeokaaVGridTurnsLaw
import Derived.Test.YtpoolpaagbeokaaVNetTurn
import Derived.Test.YtpoolpaagbeokaaVGridMoves
import Derived.Test.YtpoolpaagbeokaaVRowSet
namespace Go.Proofs.Ytpoolpaagbeokaa.GroundLaw
open Go.Proofs.Ytpoolpaagbeokaa.GridLaw Go.Proofs.Ytpoolpaagbeokaa.Net
set_option linter.unusedSimpArgs false
set_option linter.unusedVariables false
/-- the moves from the first k places -/
def allM (W H : Int) (l : List Int) (k : Nat) : List E := (List.range k).flatMap fun (v : Nat) => mv W H l ((v : Int) % W) ((v : Int) / W)
theorem allM_succ (W H : Int) (l : List Int) (k : Nat) : allM W H l (k + 1) = allM W H l k ++ mv W H l ((k : Int) % W) ((k : Int) / W) := by
  unfold allM
  rw [List.range_succ, List.flatMap_append]
  simp
theorem allM_len (W H : Int) (l : List Int) (k : Nat) : (allM W H l k).length ≤ 8 * k := by
  induction k with
  | zero => simp [allM]
  | succ k ih =>
    rw [allM_succ, List.length_append]
    have := mv_eight W H l ((k : Int) % W) ((k : Int) / W)
    omega
theorem mem_allM {W H : Int} {l : List Int} {k : Nat} {e : E} : e ∈ allM W H l k ↔ ∃ v : Nat, v < k ∧ e ∈ mv W H l ((v : Int) % W) ((v : Int) / W) := by
  unfold allM
  rw [List.mem_flatMap]
  constructor
  · rintro ⟨v, hv, h⟩
    exact ⟨v, List.mem_range.1 hv, h⟩
  · rintro ⟨v, hv, h⟩
    exact ⟨v, List.mem_range.2 hv, h⟩
theorem mv_cost {W H : Int} {l : List Int} (hg : GGood W H l) {x y f t k : Int} (h : (f, t, k) ∈ mv W H l x y) : 1 ≤ k ∧ k ≤ 126 := by
  obtain ⟨h0, s, hs, hm⟩ := mem_mv.1 h
  obtain ⟨_, _, hn⟩ := mvS_some hm
  have b1 := gr_bd hg x y
  have b2 := gr_bd hg (x + s.1) (y + s.2)
  unfold mvS at hm
  rw [if_neg hn] at hm
  split at hm
  · split at hm
    · cases hm
    · simp only [Option.some.injEq, Prod.mk.injEq] at hm
      omega
  · simp only [Option.some.injEq, Prod.mk.injEq] at hm
    omega
theorem size_bd {W H : Int} {l : List Int} (hg : GGood W H l) : 1 ≤ l.length ∧ l.length ≤ 64 := by
  have h := hg.len
  have h1 : 0 < W * H := Int.mul_pos (by have := hg.w1; omega) (by have := hg.h1; omega)
  have h2 : W * H ≤ 8 * 8 := Int.mul_le_mul hg.w8 hg.h8 (by have := hg.h1; omega) (by omega)
  omega
theorem ground_good {W H : Int} {l : List Int} (hg : GGood W H l) : NetLaw.Good l.length (allM W H l l.length) := by
  have hb := size_bd hg
  refine ⟨by omega, by omega, by have := allM_len W H l l.length; omega, fun e he => ?_, fun e he => ?_⟩
  · obtain ⟨v, hv, hm⟩ := mem_allM.1 he
    obtain ⟨f, t, k⟩ := e
    obtain ⟨h1, h2, h3, _⟩ := mv_back hm
    have h4 : (v : Int) / W * W + (v : Int) % W = v := Int.ediv_mul_add_emod _ W
    have h5 := hg.len
    simp only
    omega
  · obtain ⟨v, hv, hm⟩ := mem_allM.1 he
    obtain ⟨f, t, k⟩ := e
    have := mv_cost hg hm
    simp only
    omega
theorem ground_pos {W H : Int} {l : List Int} (hg : GGood W H l) : ∀ e ∈ allM W H l l.length, 1 ≤ e.2.2 := fun e he => by
  obtain ⟨v, hv, hm⟩ := mem_allM.1 he
  obtain ⟨f, t, k⟩ := e
  exact (mv_cost hg hm).1
theorem ground_back {W H : Int} {l : List Int} (hg : GGood W H l) : ∀ e ∈ allM W H l l.length, e ∈ tl (allM W H l l.length) := fun e he => by
  obtain ⟨v, hv, hm⟩ := mem_allM.1 he
  obtain ⟨f, t, k⟩ := e
  obtain ⟨h1, h2, h3, h4⟩ := mv_back hm
  have h5 := hg.len
  obtain ⟨t, rfl⟩ := Int.eq_ofNat_of_zero_le h2
  unfold tl
  rw [List.mem_map]
  exact ⟨(t, f, k), mem_allM.2 ⟨t, by omega, h4⟩, rfl⟩
end Go.Proofs.Ytpoolpaagbeokaa.GroundLaw

namespace Go.Proofs.Ytpoolpaagbeokaa.NetOf
open Go.RowKit Go.Proofs.Ytpoolpaagbeokaa GridLaw Go.Proofs.Ytpoolpaagbeokaa.Grid Go.Proofs.Ytpoolpaagbeokaa.GroundLaw Go.Proofs.Ytpoolpaagbeokaa.Net
set_option linter.unusedSimpArgs false
set_option linter.unusedVariables false

theorem infoEdgeO : (Try.prog.info? 110).map (fun i => (i.zero, i.size, i.bytes)) = some (some (.agg #[.int .i64 0, .int .i64 0, .int .i64 0]), 3, 24) := by kernel_rfl
/-- a net that Of answers -/
def SomeOf (n : Nat) (m : List E) (w : World) (e : Ending) (w' : World) : Prop :=
  ∃ A c, e = .returned (.tuple #[.agg #[.int .i64 n, .slice A m.length c], .int .i64 0]) ∧ Own w' w.heap.size 110 3 ce (.slice A m.length c) m ∧ Below w.heap.size w w'

set_option maxRecDepth 100000 in
set_option maxHeartbeats 2000000 in
theorem of_yes (W H : Int) (A : Option Addr) (c : Nat) (l : List Int) (w : World) (hl : Sl w w.heap.size 1 ci A l) (hg : GGood W H l) :
    Calls Try.prog 16 #[.agg #[.int .i64 W, .int .i64 H, .slice A l.length c]] w fun e w' => SomeOf l.length (allM W H l l.length) w e w' := by
  obtain ⟨i0, hi, hz0, hz1, hz2⟩ := info_parts infoEdgeO
  have hb := size_bd hg
  have hw0 : Below w.heap.size w ((w.alloc (.cells #[.int .i64 W, .int .i64 H, .slice A l.length c] 24)).alloc (.cells #[.int .i64 0, .slice none 0 0] 52)) := ((Below.refl _ _).alloc (Nat.le_refl _) _).alloc (by simp) _
  have hz : w.heap.size ≤ ((w.alloc (.cells #[.int .i64 W, .int .i64 H, .slice A l.length c] 24)).alloc (.cells #[.int .i64 0, .slice none 0 0] 52)).heap.size := by simp; omega
  have hbox := blk_alloc (heap_alloc_new w (.cells #[.int .i64 W, .int .i64 H, .slice A l.length c] 24)) (.cells #[.int .i64 0, .slice none 0 0] 52)
  have hres : ((w.alloc (.cells #[.int .i64 W, .int .i64 H, .slice A l.length c] 24)).alloc (.cells #[.int .i64 0, .slice none 0 0] 52)).heap[w.heap.size + 1]? = some (.cells #[.int .i64 0, .slice none 0 0] 52 (0, 0)) := by
    have h := heap_alloc_new (w.alloc (.cells #[.int .i64 W, .int .i64 H, .slice A l.length c] 24)) (.cells #[.int .i64 0, .slice none 0 0] 52)
    simpa using h
  have key := Grid.check_any W H A c l _ ((hl.keep hw0 (Nat.le_refl _)).more hz) (by omega)
  rw [gchk_zero.2 hg] at key
  have km := fun (v : Nat) (hv : v < l.length) W' h => moves_yes W H (v : Int) A c l W' h hg (by omega) (by omega)
  have KEY := Lib.hid key
  have KM := Lib.hid km
  have HBOX := Lib.hid hbox
  have HRES := Lib.hid hres
  clear key km hbox hres hg
  go_enter Try.func16, Try.ntmps16
  go_wp2_with fail
  refine KEY.out.mono ?_
  rintro e w1 ⟨rfl, hb1⟩
  have H1 := hw0.trans (hb1.mono hz)
  have hbx := blk_below HBOX.out hb1 (by simp; omega)
  have hrs := blk_below HRES.out hb1 (by simp)
  have g0 := blk_cell hbx 0
  have g1 := blk_cell hbx 1
  have g2 := blk_cell hbx 2
  simp only [List.getElem?_toArray, List.getElem?_cons_zero, List.getElem?_cons_succ] at g0 g1 g2
  have HB := Lib.hid hbx
  have HR := Lib.hid hrs
  clear hbx hrs hb1
  have hsz : w.heap.size + 1 < w1.heap.size := lt_of_block HR.out
  have hsz0 : w.heap.size < w1.heap.size := by omega
  go_wp2
  generalize hX : w1.heap.size = X at *
  have HX := Lib.hid hX
  clear hX
  go_loopw [22] (fun i wr => ∃ (k : Nat) (A' : Option Addr) (c' : Nat), k ≤ l.length ∧ i = .int .i64 k ∧ wr.heap[X]? = some (.cells #[.int .i64 l.length, .slice A' (allM W H l k).length c'] 52 (0, 0)) ∧ wr.heap[w.heap.size]? = some (.cells #[.int .i64 W, .int .i64 H, .slice A l.length c] 24 (0, 0)) ∧ wr.heap[w.heap.size + 1]? = some (.cells #[.int .i64 0, .slice none 0 0] 52 (0, 0)) ∧
      Own wr w.heap.size 110 3 ce (.slice A' (allM W H l k).length c') (allM W H l k) ∧ Below w.heap.size w wr) (fun i _ => l.length - (intOf i).toNat)
  case atStart => exact ⟨0, none, 0, Nat.zero_le _, rfl, by rw [← HX.out]; exact heap_alloc_new _ _, blk_alloc HB.out _, blk_alloc HR.out _, Own.nil_, H1.alloc H1.size _⟩
  case round =>
    clear g0 g1 g2 HB HR H1
    obtain ⟨k, A', c', hk, rfl, hO, hB0, hR0, hown, hB⟩ := hrel
    have hO0 := blk_cell hO 0
    have hO1 := blk_cell hO 1
    have hOz := lt_of_block hO
    have g0 := blk_cell hB0 0
    have g1 := blk_cell hB0 1
    have g2 := blk_cell hB0 2
    have r0 := blk_cell hR0 0
    have r1 := blk_cell hR0 1
    have rf0 := blk_free hR0 0
    have rf1 := blk_free hR0 1
    simp only [List.getElem?_toArray, List.getElem?_cons_zero, List.getElem?_cons_succ] at hO0 hO1 g0 g1 g2 r0 r1
    have hzR := lt_of_block hR0
    by_cases hlt : k < l.length
    · have kk := KM.out k hlt wr ((hl.keep hB (Nat.le_refl _)).more hB.size)
      have hst := allM_succ W H l k
      have h8 := mv_eight W H l ((k : Int) % W) ((k : Int) / W)
      have hml := allM_len W H l k
      generalize mv W H l ((k : Int) % W) ((k : Int) / W) = m at *
      obtain ⟨q, hq⟩ : ∃ q, (allM W H l k).length = q := ⟨_, rfl⟩
      rw [hq] at hO1 hO hown hml
      have KK := Lib.hid kk
      have HST := Lib.hid hst
      have HQ := Lib.hid hq
      have HO := Lib.hid hO
      have HB2 := Lib.hid hB0
      have HR2 := Lib.hid hR0
      clear kk hst hq hO hB0 hR0
      go_wp2_with fail
      refine KK.out.mono ?_
      rintro e w2 ⟨A2, c2, rfl, own2, hb2⟩
      have hX2 := blk_below HO.out hb2 hOz
      have hB2 := blk_below HB2.out hb2 (lt_of_block HB2.out)
      have hR2 := blk_below HR2.out hb2 hzR
      have hown2 := hown.keep hb2
      have hlo2 := hB.trans (hb2.mono hB.size)
      have hA2 := (own2.form)
      have hnil2 : A2 = none → m.length = 0 ∧ c2 = 0 := by
        obtain ⟨A9, c9, e9, _, h9⟩ := own2.form
        injection e9 with e1 e2 e3
        subst e1 e3
        exact h9
      have sl2 := own2.sl.2
      have y0 := blk_cell hX2 0
      have y1 := blk_cell hX2 1
      simp only [List.getElem?_toArray, List.getElem?_cons_zero, List.getElem?_cons_succ] at y0 y1
      have hbase2 := hlo2.size
      have HX2 := Lib.hid hX2
      have HBB := Lib.hid hB2
      have HRR := Lib.hid hR2
      have HLO := Lib.hid hlo2
      clear hX2 hB2 hR2 hlo2 own2 hb2 hA2 hO0 hO1 g0 g1 g2 r0 r1 rf0 rf1 HO HB2 HR2
      go_wp2_with (at_builtin; refine wpList_pushAll _ rfl (.tmp 32) (.tmp 33) _ rfl w.heap.size 110 i0 _ 3 24 ce Try.underlying50 hi hz0 hz1 hz2 rfl (by decide) _ (allM W H l k) q HQ.out rfl hown2 w2.heap.size A2 m.length c2 m rfl rfl hnil2 sl2 one_ce (by omega) (by omega) hbase2 ?_; intro A3 c3 w3 hown3 hgrow3 hat3; have hX3 := blk_grown HX2.out hgrow3 (hown2.ne_ HX2.out (by decide)); have x1 := blk_cell hX3 1; have xf1 := blk_free hX3 1; simp only [List.getElem?_toArray, List.getElem?_cons_zero, List.getElem?_cons_succ] at x1; clear y0 y1)
      have hB3 := blk_grown HBB.out hgrow3 (hown2.ne_ HBB.out (by decide))
      have hR3 := blk_grown HRR.out hgrow3 (hown2.ne_ HRR.out (by decide))
      have hlo3 := HLO.out.grown hgrow3 hbase2 hown2.lo
      have hl3 : (allM W H l (k + 1)).length = q + m.length := by rw [HST.out, List.length_append, HQ.out]
      have HL3 := Lib.hid hl3
      have HX3 := Lib.hid hX3
      have HO3 := Lib.hid hown3
      clear hgrow3 hat3 hl3 hX3 hown3
      go_roundw
      case rel =>
        refine ⟨k + 1, A3, c3, by omega, by go_num, by rw [HL3.out]; exact blk_set HX3.out 1 _, blk_far hB3 (by dsimp only; omega) _, blk_far hR3 (by dsimp only; omega) _, ?_, hlo3.setCell (by dsimp only; omega) _⟩
        rw [HL3.out, HST.out]
        exact HO3.out.setCell (HO3.out.ne_ HX3.out (by decide)) _
      case measure => simp [intOf]; omega
    · obtain rfl : k = l.length := by omega
      have hne := hown.ne_ hR0 (by decide)
      have HOWN := Lib.hid hown
      have HNE := Lib.hid hne
      clear hown hne hl
      go_wp2
      refine bodyPost_ret (v := .tuple #[.agg #[.int .i64 l.length, .slice A' (allM W H l l.length).length c'], .int .i64 0]) (by simp [results, Try.results16, go_sem, r0, r1, rf0, rf1, hzR]) rfl ⟨A', c', rfl, ?_, ?_⟩
      · exact (HOWN.out.setCell HNE.out _).setCell HNE.out _
      · exact (hB.setCell (by dsimp only; omega) _).setCell (by dsimp only; omega) _

set_option maxHeartbeats 1000000 in
theorem of_no (W H : Int) (A : Option Addr) (c : Nat) (l : List Int) (w : World) (hl : Sl w w.heap.size 1 ci A l) (hlen : l.length ≤ 9223372036854775807) (hg : gchk W H l ≠ 0) :
    Calls Try.prog 16 #[.agg #[.int .i64 W, .int .i64 H, .slice A l.length c]] w fun e w' => e = .returned (.tuple #[.agg #[.int .i64 0, .slice none 0 0], .int .i64 (gchk W H l)]) ∧ Below w.heap.size w w' := by
  have hw0 : Below w.heap.size w ((w.alloc (.cells #[.int .i64 W, .int .i64 H, .slice A l.length c] 24)).alloc (.cells #[.int .i64 0, .slice none 0 0] 52)) := ((Below.refl _ _).alloc (Nat.le_refl _) _).alloc (by simp) _
  have hz : w.heap.size ≤ ((w.alloc (.cells #[.int .i64 W, .int .i64 H, .slice A l.length c] 24)).alloc (.cells #[.int .i64 0, .slice none 0 0] 52)).heap.size := by simp; omega
  have hres : ((w.alloc (.cells #[.int .i64 W, .int .i64 H, .slice A l.length c] 24)).alloc (.cells #[.int .i64 0, .slice none 0 0] 52)).heap[w.heap.size + 1]? = some (.cells #[.int .i64 0, .slice none 0 0] 52 (0, 0)) := by
    have h := heap_alloc_new (w.alloc (.cells #[.int .i64 W, .int .i64 H, .slice A l.length c] 24)) (.cells #[.int .i64 0, .slice none 0 0] 52)
    simpa using h
  have key := Grid.check_any W H A c l _ ((hl.keep hw0 (Nat.le_refl _)).more hz) hlen
  have hne : (gchk W H l != 0) = true := by rw [bne_iff_ne]; exact hg
  generalize gchk W H l = x at *
  have KEY := Lib.hid key
  have HRES := Lib.hid hres
  clear key hl hres hg
  go_enter Try.func16, Try.ntmps16
  go_wp2_with fail
  refine KEY.out.mono ?_
  rintro e w1 ⟨rfl, hb1⟩
  have H1 := hw0.trans (hb1.mono hz)
  have hr := blk_below HRES.out hb1 (by simp)
  have r0 := blk_cell hr 0
  have r1 := blk_cell hr 1
  have rf0 := blk_free hr 0
  have rf1 := blk_free hr 1
  simp only [List.getElem?_toArray, List.getElem?_cons_zero, List.getElem?_cons_succ] at r0 r1
  clear hb1 hr
  go_wp2
  refine bodyPost_ret (v := .tuple #[.agg #[.int .i64 0, .slice none 0 0], .int .i64 x]) (by simp [results, Try.results16, go_sem, r0, r1, rf0, rf1]) rfl ⟨rfl, ?_⟩
  exact (H1.setCell (by dsimp only; omega) _).setCell (by dsimp only; omega) _
end Go.Proofs.Ytpoolpaagbeokaa.NetOf
