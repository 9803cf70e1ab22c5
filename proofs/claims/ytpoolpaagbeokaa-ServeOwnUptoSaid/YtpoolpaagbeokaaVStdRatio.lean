/- The walk of (*serve.Service).Poll: a request that was told something on other ground. -/
/- The walks of fellkeep.walks, fellkeep.times, fellref.SameFound. -/
/- The walk of good: what is told of a request is so on the ground of now. -/
/- The walk of (*serve.Service).Edit. -/
/- The small ground of serve's laws: one request there, one step. -/
/- Edit, whatever is asked for: the service stays a service, and a request stays that request. -/
/- A service beside other things in memory: what is written elsewhere leaves it. How many steps there are. -/
/- Two services side by side, and when two answers are the same. -/
/- The weight of a slot's last round; grids that are the same or not; a frame that ends all. -/
/- A row of the call's own with room behind it: append in place, a cell behind its end, the whole block overwritten. -/
/- The walks of roomy, filled and spoil, at int. -/
/- The walk of spoil, at Ratio. -/
/- Go's slices.Clone at []Ratio. -/
import Derived.Test.YtpoolpaagbeokaaVServeUse
import Derived.Test.YtpoolpaagbeokaaVWalkCost
import Derived.Test.YtpoolpaagbeokaaVWayUse
import Derived.IntWalk
import Derived.Test.YtpoolpaagbeokaaVDijkTwo
import Derived.Test.YtpoolpaagbeokaaVAraUse2
import Derived.Test.YtpoolpaagbeokaaVNetTurn
import Derived.Test.YtpoolpaagbeokaaVStdI
import Derived.Deep.AppendSrc
import Derived.Lib.LazyBuf
import Derived.BigQuiet
import Derived.BigRegion
namespace Go.Proofs.Ytpoolpaagbeokaa.Serve
open Go.RowKit Go.Proofs.Ytpoolpaagbeokaa NetLaw BellLaw StarLaw AraLaw Go.Proofs.Ytpoolpaagbeokaa.Net Go.Proofs.Ytpoolpaagbeokaa.Std Go.Proofs.Ytpoolpaagbeokaa.Flow Go.Proofs.Ytpoolpaagbeokaa.Ara Go.Proofs.Ytpoolpaagbeokaa.GroundLaw
open Go.Proofs.Ytpoolpaagbeokaa.GridLaw hiding E
open Go.Proofs.Ytpoolpaagbeokaa.ServeLaw
set_option linter.unusedSimpArgs false
set_option linter.unusedVariables false
section
variable {b0 : Nat} {w w' : World} {Z : Nat} {W H : Int} {AC : Option Addr} {cC : Nat} {l : List Int} {turn : Nat} {σ : Nat → Option Slt} {D : Nat → Nat → Prop}
set_option maxRecDepth 100000 in
set_option maxHeartbeats 8000000 in
/-- a request that was told something on other ground -/
theorem poll_stale (h : SV b0 w Z W H AC cC l turn σ D) {i : Nat} (hi : i < 6) {g : Slt} (hg : σ i = some g) (hr : g.s.rds = []) (hm : g.sm = true) :
    Calls Try.prog 14 #[.pointer (some ⟨Z, 0, none⟩), .int .i64 i] w fun e w' => AnsSays 3 g.T.rnd w e w' := by
  have hw0 : Below w.heap.size w (w.alloc (.cells #[.int .i64 0, .int .i64 0, .int .i64 0, .slice none 0 0, .int .i64 0, .int .i64 0] 45)) := (Below.refl _ _).alloc (Nat.le_refl _) _
  have hbox := heap_alloc_new w (.cells #[.int .i64 0, .int .i64 0, .int .i64 0, .slice none 0 0, .int .i64 0, .int .i64 0] 45)
  have h1 := h.keep hw0
  have SV0 := Lib.hid h1
  have HW0 := Lib.hid hw0
  have HB := Lib.hid hbox
  obtain ⟨a1, _⟩ := h.at_ hi
  rw [hg] at a1
  change w.cell? _ = some (.pointer (some ⟨g.Q, 0, none⟩)) at a1
  obtain ⟨_, _, _, _, _, zp⟩ := h.zs
  have zi : (i : Int) < 6 := by omega
  have hsl := h.slot i hi g hg
  have q0 := blk_cell hsl.z 0
  have zq := lt_of_block hsl.z
  simp only [List.getElem?_toArray, List.getElem?_cons_zero, List.getElem?_cons_succ] at q0
  obtain ⟨hp1, hp2⟩ := SI.paths (hsl.sr.si hsl.fo hsl.po)
  have krd := rounds_any ((h1.slot i hi g hg).sr.sm.am) hp1 (by have := hsl.fo.wl; omega)
  have KRD := Lib.hid krd
  have HG := Lib.hid hg
  have HR := Lib.hid hr
  have HRW := Lib.hid hp2
  have HM := Lib.hid hm
  clear hm h h1 hg hsl krd hr hp1 hp2 hw0 hbox
  go_enter Try.func14, Try.ntmps14
  go_wp2_with fail
  refine KRD.out.mono ?_
  rintro e w2 ⟨A, k, c, R, rfl, hRC, hb2⟩
  obtain ⟨hl1, hl2⟩ := hRC.len
  obtain rfl : k = 0 := by rw [← hl2, HR.out]; rfl
  have SV2 := SV0.out.keep hb2
  have hsl := SV2.slot i hi g HG.out
  have q9 := blk_cell hsl.z 9
  have q4 := blk_cell hsl.z 4
  have q5 := blk_cell hsl.z 5
  have q6 := blk_cell hsl.z 6
  have q7 := blk_cell hsl.z 7
  have q8 := blk_cell hsl.z 8
  have TOLD := Lib.hid hsl.told
  have HK64 := Lib.hid hsl.k64
  have zq2 := lt_of_block hsl.z
  simp only [List.getElem?_toArray, List.getElem?_cons_zero, List.getElem?_cons_succ, HM.out] at q9 q4 q5 q6 q7 q8
  have HW2 := Lib.hid (HW0.out.trans (hb2.mono HW0.out.size))
  have hB := blk_below HB.out hb2 (lt_of_block HB.out)
  have f0 := blk_free hB 0
  have f1 := blk_free hB 1
  have f2 := blk_free hB 2
  have f3 := blk_free hB 3
  have f4 := blk_free hB 4
  have f5 := blk_free hB 5
  have m0 := blk_cell hB 0
  have m1 := blk_cell hB 1
  have m2 := blk_cell hB 2
  have m3 := blk_cell hB 3
  have m4 := blk_cell hB 4
  have m5 := blk_cell hB 5
  have zR := lt_of_block hB
  simp only [List.getElem?_toArray, List.getElem?_cons_zero, List.getElem?_cons_succ] at m0 m1 m2 m3 m4 m5
  have HBR := Lib.hid hB
  clear SV2 hsl hB hRC hb2 SV0 HW0 a1 q0 zq zp KRD hl1 hl2
  go_upto_region 12 with fail
  obtain ⟨i0, hi0, hz0, hz1, hz2⟩ := info_parts infoIntO
  have h23 : Below w2.heap.size w2 (w2.alloc (.cells #[.int .i64 g.T.num, .int .i64 g.T.den, .slice g.T.A g.T.k g.T.c, .int .i64 g.T.cost, .int .i64 g.T.done] 43)) := (Below.refl _ _).alloc (Nat.le_refl _) _
  have hbn := heap_alloc_new w2 (.cells #[.int .i64 g.T.num, .int .i64 g.T.den, .slice g.T.A g.T.k g.T.c, .int .i64 g.T.cost, .int .i64 g.T.done] 43)
  have HT3 := TOLD.out.keep h23
  have hbR3 := blk_alloc HBR.out (.cells #[.int .i64 g.T.num, .int .i64 g.T.den, .slice g.T.A g.T.k g.T.c, .int .i64 g.T.cost, .int .i64 g.T.done] 43)
  have hXR : w.heap.size ≠ w2.heap.size := Nat.ne_of_lt (lt_of_block HBR.out)
  have HW3 := Lib.hid (HW2.out.trans (h23.mono HW2.out.size))
  have hb0k := HG.out
  have hkl := TOLD.out.sl.1
  have hfo : g.T.A = none → g.T.path.length = 0 ∧ g.T.c = 0 := by
    obtain ⟨A9, c9, e9, _, h9⟩ := TOLD.out.form
    injection e9 with e1 e2 e3
    subst e1 e3
    exact h9
  generalize w2.alloc (.cells #[.int .i64 g.T.num, .int .i64 g.T.den, .slice g.T.A g.T.k g.T.c, .int .i64 g.T.cost, .int .i64 g.T.done] 43) = w3 at hbn HT3 HW3 hbR3 ⊢
  have hle3 := HW3.out.size
  generalize hX : w2.heap.size = X at hbn hXR ⊢
  have x1 := blk_cell hbn 2
  have zX := lt_of_block hbn
  have hk6 := HK64.out
  simp only [List.getElem?_toArray, List.getElem?_cons_zero, List.getElem?_cons_succ] at x1
  have hsl3 := HT3.sl.2
  rw [hkl] at x1
  clear q4 q5 q6 q7 q8 q9 f0 f1 f2 f3 f4 f5 m0 m1 m2 m3 m4 m5 zR
  have HX1 := Lib.hid hX
  clear hX
  go_upto_region 13 with (at_builtin; go_must (refine wpList_pushAll _ rfl (.const (.slice none 0 0)) (.tmp 66) _ rfl w3.heap.size 3 i0 (.int .i64 0) 1 8 ci Try.underlying22 hi0 hz0 hz1 hz2 rfl (by decide) _ [] 0 rfl rfl Own.nil_ w3.heap.size g.T.A g.T.path.length g.T.c g.T.path rfl rfl hfo (hsl3.more (by omega)) one_ci (by omega) (by omega) (Nat.le_refl _) ?_; intro A5 c5 w5 hown5 hgrow5 hat5; have hb35 : Below w3.heap.size w3 w5 := (Below.refl _ _).grown hgrow5 (Nat.le_refl _) (fun k hk => by cases hk); have hbn5 := blk_below hbn hb35 zX; have y2 := blk_cell hbn5 2; have yf := blk_free hbn5 2; have zX5 := lt_of_block hbn5))
  simp only [Nat.zero_add, List.nil_append] at hown5
  have hbR5 := blk_below hbR3 hb35 (lt_of_block hbR3)
  have hbn6 := blk_set hbn5 2 (.slice A5 g.T.path.length c5)
  have hbR6 := blk_far hbR5 (p := ⟨X, 2, none⟩) hXR (.slice A5 g.T.path.length c5)
  have own6 := hown5.setCell (p := ⟨X, 2, none⟩) (hown5.ne_ hbn5 (by decide)) (.slice A5 g.T.path.length c5)
  have hb36 : w.heap.size ≤ w3.heap.size := hle3
  have hXw : w.heap.size ≤ X := by rw [← HX1.out]; exact HW2.out.size
  have HW6 := Lib.hid ((HW3.out.trans (hb35.mono HW3.out.size)).setCell (p := ⟨X, 2, none⟩) hXw (.slice A5 g.T.path.length c5))
  clear hbR5 hbR3 hbn5 hbn y2 yf zX5 hown5 hgrow5 hat5 hb35 hsl3 HT3 HW3 x1 zX
  generalize w5.setCell ⟨X, 2, none⟩ (.slice A5 g.T.path.length c5) = w6 at hbn6 hbR6 own6 HW6 ⊢
  have n0 := blk_cell hbn6 0
  have n1 := blk_cell hbn6 1
  have n2 := blk_cell hbn6 2
  have n3 := blk_cell hbn6 3
  have n4 := blk_cell hbn6 4
  have zX6 := lt_of_block hbn6
  have f0 := blk_free hbR6 0
  have f1 := blk_free hbR6 1
  have f2 := blk_free hbR6 2
  have f3 := blk_free hbR6 3
  have f4 := blk_free hbR6 4
  have f5 := blk_free hbR6 5
  have m0 := blk_cell hbR6 0
  have m1 := blk_cell hbR6 1
  have m2 := blk_cell hbR6 2
  have m3 := blk_cell hbR6 3
  have m4 := blk_cell hbR6 4
  have m5 := blk_cell hbR6 5
  have zR := lt_of_block hbR6
  simp only [List.getElem?_toArray, List.getElem?_cons_zero, List.getElem?_cons_succ, List.setIfInBounds_toArray, List.set_cons_zero, List.set_cons_succ] at n0 n1 n2 n3 n4 m0 m1 m2 m3 m4 m5
  have ne1 := own6.ne_ hbR6 (by decide)
  have OWN6 := Lib.hid (own6.mono hb36)
  have NE1 := Lib.hid ne1
  clear hbn6 hbR6 own6 ne1 HBR
  go_wp2
  refine bodyPost_ret (v := .tuple #[.agg #[.int .i64 3, .int .i64 g.T.num, .int .i64 g.T.den, .slice A5 g.T.path.length c5, .int .i64 g.T.cost, .int .i64 g.T.done], .int .i64 0]) (by simp [results, Try.results14, go_sem, m0, m1, m2, m3, m4, m5, f0, f1, f2, f3, f4, f5, n0, n1, n2, n3, n4, zR, zX6]) rfl ?_
  refine ⟨A5, c5, rfl, ?_, ?_⟩
  · exact (((((OWN6.out.setCell NE1.out _).setCell NE1.out _).setCell NE1.out _).setCell NE1.out _).setCell NE1.out _).setCell NE1.out _
  · exact (((((HW6.out.setCell (by dsimp only; omega) _).setCell (by dsimp only; omega) _).setCell (by dsimp only; omega) _).setCell (by dsimp only; omega) _).setCell (by dsimp only; omega) _).setCell (by dsimp only; omega) _
end
end Go.Proofs.Ytpoolpaagbeokaa.Serve

namespace Go.Proofs.Ytpoolpaagbeokaa.StarF
open Go.RowKit Go.Proofs.Ytpoolpaagbeokaa NetLaw BellLaw DijkLaw Go.Proofs.Ytpoolpaagbeokaa.Net Go.Proofs.Ytpoolpaagbeokaa.Std
set_option linter.unusedSimpArgs false
set_option linter.unusedVariables false
/-- a cell of a list, by what stands there -/
theorem at_eq {w : World} {B : Nat} {A : Option Addr} {l : List Int} (h : Sl w B 1 ci A l) {k : Nat} {x : Int} (hx : l[k]? = some x) : ∃ b off, A = some ⟨b, off, none⟩ ∧ b < B ∧ w.cell? ⟨b, off + k, none⟩ = some (.int .i64 x) := by
  obtain ⟨hk, rfl⟩ := List.getElem?_eq_some_iff.1 hx
  exact h.atI hk
set_option maxRecDepth 100000 in
set_option maxHeartbeats 2000000 in
theorem walks_any (N co fr tt : Int) (A : Option Addr) (c : Nat) (l : List E) (A' : Option Addr) (m c' : Nat) (p : List Int) (w : World) (hl : Sl w w.heap.size 3 ce A l) (hp : Sl w w.heap.size 1 ci A' p) (hm : p.length = m) (hlen : l.length ≤ 9223372036854775807) (hlen' : m ≤ 9223372036854775807)
    (hcost : WalkLaw.cost N l p = (co, 0)) (h0 : p.head? = some fr) (h1 : p.getLast? = some tt) :
    Calls Try.prog 47 #[.agg #[.int .i64 N, .slice A l.length c], .agg #[.slice A' m c', .int .i64 co], .int .i64 fr, .int .i64 tt] w fun e w' => e = .returned (.bool true) ∧ Below w.heap.size w w' := by
  obtain ⟨k, rfl⟩ : ∃ k, m = k + 1 := ⟨m - 1, by cases p with | nil => cases h0 | cons a r => simp at hm; omega⟩
  have hk0 : p[0]? = some fr := by rw [← List.head?_eq_getElem?]; exact h0
  have hkk : p[k]? = some tt := by rw [List.getLast?_eq_getElem?, hm, Nat.add_sub_cancel] at h1; exact h1
  have hw0 : Below w.heap.size w ((w.alloc (.cells #[.int .i64 N, .slice A l.length c] 52)).alloc (.cells #[.slice A' (k + 1) c', .int .i64 co] 41)) := ((Below.refl _ _).alloc (Nat.le_refl _) _).alloc (by simp) _
  have hz0 : w.heap.size ≤ ((w.alloc (.cells #[.int .i64 N, .slice A l.length c] 52)).alloc (.cells #[.slice A' (k + 1) c', .int .i64 co] 41)).heap.size := by simp; omega
  have hbox : ((w.alloc (.cells #[.int .i64 N, .slice A l.length c] 52)).alloc (.cells #[.slice A' (k + 1) c', .int .i64 co] 41)).heap[w.heap.size + 1]? = some (.cells #[.slice A' (k + 1) c', .int .i64 co] 41 (0, 0)) := by
    have h := heap_alloc_new (w.alloc (.cells #[.int .i64 N, .slice A l.length c] 52)) (.cells #[.slice A' (k + 1) c', .int .i64 co] 41)
    simpa using h
  have key := Walk.cost_any N A c l A' c' p _ ((hl.keep hw0 (Nat.le_refl _)).more hz0) ((hp.keep hw0 (Nat.le_refl _)).more hz0) hlen (by omega)
  rw [hcost, hm] at key
  obtain ⟨b, o, rfl, hb, _⟩ := at_eq hp hk0
  have KEY := Lib.hid key
  have HBOX := Lib.hid hbox
  have HP := Lib.hid hp
  have HK0 := Lib.hid hk0
  have HKK := Lib.hid hkk
  clear key hbox hcost hp hk0 hkk h0 h1 hm hl
  have hko : ((k : Int) + 1) - 1 = (k : Int) := by omega
  have hkl : (k : Int) < (k : Int) + 1 := by omega
  go_enter Try.func47, Try.ntmps47
  go_wp2_with fail
  refine KEY.out.mono ?_
  rintro e w1 ⟨rfl, hb1⟩
  have H1 := hw0.trans (hb1.mono hz0)
  have hbk := blk_below HBOX.out hb1 (by simp)
  have q0 := blk_cell hbk 0
  have q1 := blk_cell hbk 1
  simp only [List.getElem?_toArray, List.getElem?_cons_zero, List.getElem?_cons_succ] at q0 q1
  have hsl := HP.out.keep H1 (Nat.le_refl _)
  obtain ⟨b1, o1, e1, _, g1⟩ := at_eq hsl HK0.out
  injection e1 with e1
  injection e1 with e1 e2
  subst e1 e2
  obtain ⟨b1, o1, e1, _, g2⟩ := at_eq hsl HKK.out
  injection e1 with e1
  injection e1 with e1 e2
  subst e1 e2
  simp only [Nat.add_zero] at g1
  clear hbk hb1 hsl
  go_wp2
  go_ret
  exact ⟨rfl, H1⟩
theorem times_any (co Num Den least : Int) (w : World) (h1 : -9223372036854775808 ≤ co * Den ∧ co * Den ≤ 9223372036854775807) (h2 : -9223372036854775808 ≤ Num * least ∧ Num * least ≤ 9223372036854775807) (h : co * Den ≤ Num * least) :
    Calls Try.prog 48 #[.int .i64 co, .agg #[.int .i64 Num, .int .i64 Den], .int .i64 least] w fun e w' => e = .returned (.bool true) ∧ Below w.heap.size w w' := by
  have hw0 : Below w.heap.size w (w.alloc (.cells #[.int .i64 Num, .int .i64 Den] 39)) := (Below.refl _ _).alloc (Nat.le_refl _) _
  generalize hx : co * Den = x at *
  generalize hy : Num * least = y at *
  have hd : decide (x ≤ y) = true := by simp [h]
  go_enter Try.func48, Try.ntmps48
  go_wp2
  go_ret
  exact ⟨rfl, hw0⟩
theorem own_kc {w : World} {B : Nat} {e : TypeId} {A : Option Addr} {k c : Nat} {o : List Int} (h : Own w B e 1 ci (.slice A k c) o) : k ≤ c := by
  obtain ⟨A', c', hv, hc, _⟩ := h.form
  injection hv with _ h1 h2
  omega
theorem look_fst {N : Int} {l : List E} {a b : Int} (h : Dijk.look N l [a, b] = 0) : Dijk.look N l [a] = 0 := by
  unfold Dijk.look at h ⊢
  split at h
  · rename_i h1; exact absurd h h1
  · rename_i h1
    rw [if_neg h1]
    simp only [Dijk.lookE] at h ⊢
    split at h
    · omega
    · rename_i h2; rw [if_neg h2]
end Go.Proofs.Ytpoolpaagbeokaa.StarF

namespace Go.Proofs.Ytpoolpaagbeokaa.ServeG
open Go.RowKit Go.Proofs.Ytpoolpaagbeokaa NetLaw BellLaw DijkLaw StarLaw AraLaw Go.Proofs.Ytpoolpaagbeokaa.Net Go.Proofs.Ytpoolpaagbeokaa.Std Go.Proofs.Ytpoolpaagbeokaa.Flow Go.Proofs.Ytpoolpaagbeokaa.Refs Go.Proofs.Ytpoolpaagbeokaa.DijkTwo Go.Proofs.Ytpoolpaagbeokaa.Ara Go.Proofs.Ytpoolpaagbeokaa.GroundLaw Go.Proofs.Ytpoolpaagbeokaa.StarF
open Go.Proofs.Ytpoolpaagbeokaa.GridLaw hiding E
open Go.Proofs.Ytpoolpaagbeokaa.ServeLaw Go.Proofs.Ytpoolpaagbeokaa.Serve
set_option linter.unusedSimpArgs false
set_option linter.unusedVariables false
/-- what the round ahead costs -/
def lc (rs : List Rnd) (j : Nat) : Int := if j = 0 then far else match rs[j - 1]? with | some r => r.cost | none => far
theorem lc_step {rs : List Rnd} {j : Nat} {r : Rnd} (h : rs[j]? = some r) : lc rs (j + 1) = r.cost := by
  unfold lc
  rw [if_neg (Nat.succ_ne_zero j), Nat.add_sub_cancel, h]
theorem wg_wk {N : Int} {l : List E} {p : List Int} {co f t : Int} (h : WalkLaw.cost N l p = (co, 0)) (h0 : p.head? = some f) (h1 : p.getLast? = some t) : Wk l f t co := by
  have hz : (WalkLaw.cost N l p).2 = 0 := by rw [h]
  have hv := WalkLaw.cost_val (N := N) (l := l) (p := p)
  rw [if_pos hz, h] at hv
  have hok := (WalkLaw.cost_zero.1 hz).2.2.2.2
  have k := TopLaw.walk_wk p f t h0 h1 hok
  rw [← hv] at k
  exact k
/-- what holds of one round -/
theorem round_facts {n f t : Nat} {l : List E} {ws : List (Int × Int)} {s : AS} {M : List Int} (hR : RI n f t l ws s) (hM : Sh n f l M) (hg : NetLaw.Good n l) (hc : ∀ e ∈ l, 1 ≤ e.2.2) (ht : t < n) {j : Nat} {r : Rnd} (hj : s.rds[j]? = some r) (hjw : j < ws.length) :
    (r.num = ws[j].1 ∧ r.den = ws[j].2) ∧ r.cost ≤ lc s.rds j ∧ (dg M t = far → r.cost = far ∧ r.path = []) ∧ (dg M t < far → (0 ≤ r.cost ∧ r.cost < far) ∧ WalkLaw.cost n l r.path = (r.cost, 0) ∧ r.path.head? = some (f : Int) ∧ r.path.getLast? = some (t : Int) ∧ r.path.length ≤ 64 ∧ r.den * r.cost ≤ r.num * dg M t ∧ dg M t ≤ r.cost) := by
  have hlo := hM.lo t (by omega) (by omega)
  have hmem : r ∈ s.rds := List.mem_of_getElem? hj
  obtain ⟨hwg, hb⟩ := hR.each r hmem
  have hc0 : ∀ e ∈ l, 0 ≤ e.2.2 := fun e he => by have := hc e he; omega
  have hjl : j < s.rds.length := by obtain ⟨h, _⟩ := List.getElem?_eq_some_iff.1 hj; exact h
  refine ⟨?_, ?_, fun hf => ?_, fun hf => ?_⟩
  · have h1 : (s.rds.map (fun r => (r.num, r.den)))[j]? = some (r.num, r.den) := by rw [List.getElem?_map, hj]; rfl
    rw [hR.wts, List.getElem?_take, if_pos hjl, List.getElem?_eq_getElem hjw] at h1
    injection h1 with h1
    rw [h1]
    exact ⟨rfl, rfl⟩
  · unfold lc
    by_cases h0 : j = 0
    · rw [if_pos h0]
      rcases hwg with ⟨h, _⟩ | ⟨h, _⟩ <;> omega
    · rw [if_neg h0]
      obtain ⟨k, rfl⟩ : ∃ k, j = k + 1 := ⟨j - 1, by omega⟩
      have hk : k < s.rds.length := by omega
      rw [Nat.add_sub_cancel, List.getElem?_eq_getElem hk]
      have hp := List.pairwise_iff_getElem.1 hR.mono k (k + 1) hk hjl (Nat.lt_succ_self k)
      obtain ⟨_, e⟩ := List.getElem?_eq_some_iff.1 hj
      rw [← e]
      exact hp
  · rcases hwg with ⟨h, h2⟩ | ⟨h, h2, h3, h4, _⟩
    · exact ⟨h, h2⟩
    · have hw := wg_wk h2 h3 h4
      have := hM.walk_le hg.ends hw h hc0
      omega
  · obtain ⟨h1, h2⟩ := hb _ (hM.wk t (by omega) (by omega) hf) hf
    rcases hwg with ⟨h, _⟩ | ⟨h, k2, k3, k4, k5⟩
    · omega
    · have hw := wg_wk k2 k3 k4
      have h3 := hM.walk_le hg.ends hw h hc0
      exact ⟨⟨by omega, h⟩, k2, k3, k4, k5, h2, h3⟩

section
variable {b0 : Nat} {w w' : World} {Z : Nat} {W H : Int} {AC : Option Addr} {cC : Nat} {l : List Int} {turn : Nat} {σ : Nat → Option Slt} {D : Nat → Nat → Prop}
/-- what Poll answers, in one form -/
theorem poll_any (h : SV b0 w Z W H AC cC l turn σ D) {i : Nat} (hi : i < 6) {g : Slt} (hg : σ i = some g) : ∃ (st : Int) (r : Rnd), (Calls Try.prog 14 #[.pointer (some ⟨Z, 0, none⟩), .int .i64 i] w fun e w' => AnsSays st r w e w') ∧
    ((g.s.rds = [] ∧ st = 1 ∧ g.sm = false) ∨ (g.s.rds = [] ∧ st = 3 ∧ g.sm = true ∧ r = g.T.rnd) ∨ ∃ R0, g.s.rds = R0 ++ [r] ∧ st = if g.s.rds.length = g.F.ws.length then 4 else 2) := by
  rcases List.eq_nil_or_concat g.s.rds with hr | ⟨R0, r, hr⟩
  · cases hm : g.sm with
    | false =>
      refine ⟨1, ⟨0, 0, [], 0, 0⟩, (poll_empty h hi hg hr hm).mono ?_, .inl ⟨hr, rfl, rfl⟩⟩
      rintro e w' ⟨rfl, hb⟩
      exact ⟨none, 0, rfl, Own.nil_, hb⟩
    | true => exact ⟨3, g.T.rnd, poll_stale h hi hg hr hm, .inr (.inl ⟨hr, rfl, rfl, rfl⟩)⟩
  · rw [List.concat_eq_append] at hr
    exact ⟨_, r, poll_good h hi hg hr, .inr (.inr ⟨R0, hr, rfl⟩)⟩
/-- what holds of a slot's last round -/
theorem SL.last {n : Nat} {m : List E} {Dk : Nat → Prop} {g : Slt} (h : SL b0 w n m Dk g) {M : List Int} (hM : Sh n g.f m M) {R0 : List Rnd} {r : Rnd} (hr : g.s.rds = R0 ++ [r]) :
    (dg M g.F.tt = far → r.cost = far ∧ r.path = []) ∧ (dg M g.F.tt < far → (0 ≤ r.cost ∧ r.cost < far) ∧ WalkLaw.cost n m r.path = (r.cost, 0) ∧ r.path.head? = some (g.f : Int) ∧ r.path.getLast? = some (g.F.tt : Int) ∧ r.path.length ≤ 64 ∧ r.den * r.cost ≤ r.num * dg M g.F.tt ∧ dg M g.F.tt ≤ r.cost) ∧ (1 ≤ r.den ∧ r.den ≤ 1000000) ∧ 1 ≤ r.num ∧ r.num ≤ 1000000 := by
  obtain ⟨e1, e2, e3⟩ := h.net
  obtain ⟨V, _, _, hRI⟩ := h.sr.si h.fo h.po
  rw [e1, e2] at hRI
  have hj : g.s.rds[R0.length]? = some r := by rw [hr, List.getElem?_append_right (Nat.le_refl _), Nat.sub_self]; rfl
  have hl : R0.length < g.F.ws.length := by have h1 := hRI.len; rw [hr] at h1; simp at h1; omega
  have hgd := h.fo.gd
  have hc1 := h.fo.c1
  have htt := h.fo.tt
  rw [e1, e2] at hgd
  rw [e2] at hc1
  rw [e1] at htt
  obtain ⟨⟨a1, a2⟩, _, a3, a4⟩ := round_facts hRI hM hgd hc1 htt hj hl
  obtain ⟨_, hwo⟩ := wcode_ok h.wc
  obtain ⟨b1, b2⟩ := hwo _ (List.getElem_mem hl)
  rw [← a2] at b1
  rw [← a1] at b2
  exact ⟨a3, a4, b1, b2.1⟩
set_option maxRecDepth 100000 in
set_option maxHeartbeats 16000000 in
theorem good_one (h : SV b0 w Z W H AC cC l turn σ D) {i : Nat} (hi : i < 6) {g : Slt} (hg : σ i = some g) {r : Rnd} (kp : Calls Try.prog 14 #[.pointer (some ⟨Z, 0, none⟩), .int .i64 i] w fun e w' => AnsSays 1 r w e w') :
    Calls Try.prog 22 #[.pointer (some ⟨Z, 0, none⟩), .int .i64 i, .int .i64 g.f, .int .i64 g.F.tt] w fun e w' => e = .returned (.bool true) ∧ Below w.heap.size w w' := by
  have SV0 := Lib.hid h
  have HG := Lib.hid hg
  have KP := Lib.hid kp
  have hl64 := size_bd h.good
  clear h hg kp
  go_enter Try.func22, Try.ntmps22
  go_wp2_with fail
  refine KP.out.mono ?_
  rintro e w1 ⟨A1, c1, rfl, own1, hb1⟩
  have HB1 := Lib.hid hb1
  have OW1 := Lib.hid own1
  clear hb1 own1 KP
  go_upto_region 2 with fail
  have hbx := heap_alloc_new w1 (.cells #[.int .i64 1, .int .i64 r.num, .int .i64 r.den, .slice A1 r.path.length c1, .int .i64 r.cost, .int .i64 r.done] 45)
  have h12 : Below w1.heap.size w1 (w1.alloc (.cells #[.int .i64 1, .int .i64 r.num, .int .i64 r.den, .slice A1 r.path.length c1, .int .i64 r.cost, .int .i64 r.done] 45)) := (Below.refl _ _).alloc (Nat.le_refl _) _
  have HB2 := Lib.hid (HB1.out.trans (h12.mono HB1.out.size))
  have OW2 := Lib.hid (OW1.out.keep h12)
  generalize w1.alloc (.cells #[.int .i64 1, .int .i64 r.num, .int .i64 r.den, .slice A1 r.path.length c1, .int .i64 r.cost, .int .i64 r.done] 45) = w2 at hbx HB2 OW2 ⊢
  generalize w1.heap.size = XA at hbx ⊢
  have HBX := Lib.hid hbx
  have SV2 := Lib.hid (SV0.out.keep HB2.out)
  obtain ⟨z0, z1, z2, _, _, zp⟩ := SV2.out.zs
  have kg := Serve.ground_any Z W H AC cC l w2 SV2.out.cells.sl.2 SV2.out.nil_ (by omega) z0 z1 z2 zp
  have KG := Lib.hid kg
  clear kg hbx h12 HB1 OW1 z0 z1 z2 zp
  go_wp2_with fail
  refine KG.out.mono ?_
  rintro e w3 ⟨A3, c3, rfl, own3, hb3⟩
  have kof := NetOf.of_yes W H A3 c3 l w3 own3.sl.2 SV2.out.good
  have KOF := Lib.hid kof
  have HB3 := Lib.hid (HB2.out.trans (hb3.mono HB2.out.size))
  have OW3 := Lib.hid (OW2.out.keep hb3)
  have HBX3 := Lib.hid (blk_below HBX.out hb3 (lt_of_block HBX.out))
  clear kof own3 hb3 KG HB2 OW2 HBX
  go_wp2_with fail
  refine KOF.out.mono ?_
  rintro e w4 ⟨A4, c4, rfl, own4, hb4⟩
  have HB4 := Lib.hid (HB3.out.trans (hb4.mono HB3.out.size))
  have OW4 := Lib.hid (OW3.out.keep hb4)
  have HBX4 := Lib.hid (blk_below HBX3.out hb4 (lt_of_block HBX3.out))
  have ON4 := Lib.hid own4
  clear own4 hb4 KOF HB3 OW3 HBX3
  go_upto_region 3 with fail
  have hbn := heap_alloc_new w4 (.cells #[.int .i64 l.length, .slice A4 (allM W H l l.length).length c4] 52)
  have h45 : Below w4.heap.size w4 (w4.alloc (.cells #[.int .i64 l.length, .slice A4 (allM W H l l.length).length c4] 52)) := (Below.refl _ _).alloc (Nat.le_refl _) _
  have HB5 := Lib.hid (HB4.out.trans (h45.mono HB4.out.size))
  have OW5 := Lib.hid (OW4.out.keep h45)
  have ON5 := Lib.hid (ON4.out.keep h45)
  have hbx := blk_below HBX4.out h45 (lt_of_block HBX4.out)
  generalize w4.alloc (.cells #[.int .i64 l.length, .slice A4 (allM W H l l.length).length c4] 52) = w5 at hbn HB5 OW5 ON5 hbx ⊢
  generalize w4.heap.size = XN at hbn ⊢
  clear h45 HB4 OW4 ON4 HBX4
  have q0 := blk_cell hbx 0
  have q1 := blk_cell hbx 1
  have q2 := blk_cell hbx 2
  have q3 := blk_cell hbx 3
  have q4 := blk_cell hbx 4
  have q5 := blk_cell hbx 5
  have zq := lt_of_block hbx
  simp only [List.getElem?_toArray, List.getElem?_cons_zero, List.getElem?_cons_succ] at q0 q1 q2 q3 q4 q5
  clear hbn hbx q1 q2 q3 q4 q5
  go_wp2
  go_ret
  exact ⟨rfl, HB5.out⟩
set_option maxRecDepth 100000 in
set_option maxHeartbeats 16000000 in
theorem good_three (h : SV b0 w Z W H AC cC l turn σ D) {i : Nat} (hi : i < 6) {g : Slt} (hg : σ i = some g) {r : Rnd} (kp : Calls Try.prog 14 #[.pointer (some ⟨Z, 0, none⟩), .int .i64 i] w fun e w' => AnsSays 3 r w e w') :
    Calls Try.prog 22 #[.pointer (some ⟨Z, 0, none⟩), .int .i64 i, .int .i64 g.f, .int .i64 g.F.tt] w fun e w' => e = .returned (.bool true) ∧ Below w.heap.size w w' := by
  have SV0 := Lib.hid h
  have HG := Lib.hid hg
  have KP := Lib.hid kp
  have hl64 := size_bd h.good
  clear h hg kp
  go_enter Try.func22, Try.ntmps22
  go_wp2_with fail
  refine KP.out.mono ?_
  rintro e w1 ⟨A1, c1, rfl, own1, hb1⟩
  have HB1 := Lib.hid hb1
  have OW1 := Lib.hid own1
  clear hb1 own1 KP
  go_upto_region 2 with fail
  have hbx := heap_alloc_new w1 (.cells #[.int .i64 3, .int .i64 r.num, .int .i64 r.den, .slice A1 r.path.length c1, .int .i64 r.cost, .int .i64 r.done] 45)
  have h12 : Below w1.heap.size w1 (w1.alloc (.cells #[.int .i64 3, .int .i64 r.num, .int .i64 r.den, .slice A1 r.path.length c1, .int .i64 r.cost, .int .i64 r.done] 45)) := (Below.refl _ _).alloc (Nat.le_refl _) _
  have HB2 := Lib.hid (HB1.out.trans (h12.mono HB1.out.size))
  have OW2 := Lib.hid (OW1.out.keep h12)
  generalize w1.alloc (.cells #[.int .i64 3, .int .i64 r.num, .int .i64 r.den, .slice A1 r.path.length c1, .int .i64 r.cost, .int .i64 r.done] 45) = w2 at hbx HB2 OW2 ⊢
  generalize w1.heap.size = XA at hbx ⊢
  have HBX := Lib.hid hbx
  have SV2 := Lib.hid (SV0.out.keep HB2.out)
  obtain ⟨z0, z1, z2, _, _, zp⟩ := SV2.out.zs
  have kg := Serve.ground_any Z W H AC cC l w2 SV2.out.cells.sl.2 SV2.out.nil_ (by omega) z0 z1 z2 zp
  have KG := Lib.hid kg
  clear kg hbx h12 HB1 OW1 z0 z1 z2 zp
  go_wp2_with fail
  refine KG.out.mono ?_
  rintro e w3 ⟨A3, c3, rfl, own3, hb3⟩
  have kof := NetOf.of_yes W H A3 c3 l w3 own3.sl.2 SV2.out.good
  have KOF := Lib.hid kof
  have HB3 := Lib.hid (HB2.out.trans (hb3.mono HB2.out.size))
  have OW3 := Lib.hid (OW2.out.keep hb3)
  have HBX3 := Lib.hid (blk_below HBX.out hb3 (lt_of_block HBX.out))
  clear kof own3 hb3 KG HB2 OW2 HBX
  go_wp2_with fail
  refine KOF.out.mono ?_
  rintro e w4 ⟨A4, c4, rfl, own4, hb4⟩
  have HB4 := Lib.hid (HB3.out.trans (hb4.mono HB3.out.size))
  have OW4 := Lib.hid (OW3.out.keep hb4)
  have HBX4 := Lib.hid (blk_below HBX3.out hb4 (lt_of_block HBX3.out))
  have ON4 := Lib.hid own4
  clear own4 hb4 KOF HB3 OW3 HBX3
  go_upto_region 3 with fail
  have hbn := heap_alloc_new w4 (.cells #[.int .i64 l.length, .slice A4 (allM W H l l.length).length c4] 52)
  have h45 : Below w4.heap.size w4 (w4.alloc (.cells #[.int .i64 l.length, .slice A4 (allM W H l l.length).length c4] 52)) := (Below.refl _ _).alloc (Nat.le_refl _) _
  have HB5 := Lib.hid (HB4.out.trans (h45.mono HB4.out.size))
  have OW5 := Lib.hid (OW4.out.keep h45)
  have ON5 := Lib.hid (ON4.out.keep h45)
  have hbx := blk_below HBX4.out h45 (lt_of_block HBX4.out)
  generalize w4.alloc (.cells #[.int .i64 l.length, .slice A4 (allM W H l l.length).length c4] 52) = w5 at hbn HB5 OW5 ON5 hbx ⊢
  generalize w4.heap.size = XN at hbn ⊢
  clear h45 HB4 OW4 ON4 HBX4
  have q0 := blk_cell hbx 0
  have q1 := blk_cell hbx 1
  have q2 := blk_cell hbx 2
  have q3 := blk_cell hbx 3
  have q4 := blk_cell hbx 4
  have q5 := blk_cell hbx 5
  have zq := lt_of_block hbx
  simp only [List.getElem?_toArray, List.getElem?_cons_zero, List.getElem?_cons_succ] at q0 q1 q2 q3 q4 q5
  clear hbn hbx q1 q2 q3 q4 q5
  go_wp2
  go_ret
  exact ⟨rfl, HB5.out⟩
set_option maxRecDepth 100000 in
set_option maxHeartbeats 16000000 in
theorem good_two (h : SV b0 w Z W H AC cC l turn σ D) {i : Nat} (hi : i < 6) {g : Slt} (hg : σ i = some g) {r : Rnd} (kp : Calls Try.prog 14 #[.pointer (some ⟨Z, 0, none⟩), .int .i64 i] w fun e w' => AnsSays 2 r w e w') {R0 : List Rnd} (hr : g.s.rds = R0 ++ [r]) :
    Calls Try.prog 22 #[.pointer (some ⟨Z, 0, none⟩), .int .i64 i, .int .i64 g.f, .int .i64 g.F.tt] w fun e w' => e = .returned (.bool true) ∧ Below w.heap.size w w' := by
  have SV0 := Lib.hid h
  have HG := Lib.hid hg
  have KP := Lib.hid kp
  have hl64 := size_bd h.good
  clear h hg kp
  have HR := Lib.hid hr
  clear hr
  go_enter Try.func22, Try.ntmps22
  go_wp2_with fail
  refine KP.out.mono ?_
  rintro e w1 ⟨A1, c1, rfl, own1, hb1⟩
  have HB1 := Lib.hid hb1
  have OW1 := Lib.hid own1
  clear hb1 own1 KP
  go_upto_region 2 with fail
  have hbx := heap_alloc_new w1 (.cells #[.int .i64 2, .int .i64 r.num, .int .i64 r.den, .slice A1 r.path.length c1, .int .i64 r.cost, .int .i64 r.done] 45)
  have h12 : Below w1.heap.size w1 (w1.alloc (.cells #[.int .i64 2, .int .i64 r.num, .int .i64 r.den, .slice A1 r.path.length c1, .int .i64 r.cost, .int .i64 r.done] 45)) := (Below.refl _ _).alloc (Nat.le_refl _) _
  have HB2 := Lib.hid (HB1.out.trans (h12.mono HB1.out.size))
  have OW2 := Lib.hid (OW1.out.keep h12)
  generalize w1.alloc (.cells #[.int .i64 2, .int .i64 r.num, .int .i64 r.den, .slice A1 r.path.length c1, .int .i64 r.cost, .int .i64 r.done] 45) = w2 at hbx HB2 OW2 ⊢
  generalize w1.heap.size = XA at hbx ⊢
  have HBX := Lib.hid hbx
  have SV2 := Lib.hid (SV0.out.keep HB2.out)
  obtain ⟨z0, z1, z2, _, _, zp⟩ := SV2.out.zs
  have kg := Serve.ground_any Z W H AC cC l w2 SV2.out.cells.sl.2 SV2.out.nil_ (by omega) z0 z1 z2 zp
  have KG := Lib.hid kg
  clear kg hbx h12 HB1 OW1 z0 z1 z2 zp
  go_wp2_with fail
  refine KG.out.mono ?_
  rintro e w3 ⟨A3, c3, rfl, own3, hb3⟩
  have kof := NetOf.of_yes W H A3 c3 l w3 own3.sl.2 SV2.out.good
  have KOF := Lib.hid kof
  have HB3 := Lib.hid (HB2.out.trans (hb3.mono HB2.out.size))
  have OW3 := Lib.hid (OW2.out.keep hb3)
  have HBX3 := Lib.hid (blk_below HBX.out hb3 (lt_of_block HBX.out))
  clear kof own3 hb3 KG HB2 OW2 HBX
  go_wp2_with fail
  refine KOF.out.mono ?_
  rintro e w4 ⟨A4, c4, rfl, own4, hb4⟩
  have HB4 := Lib.hid (HB3.out.trans (hb4.mono HB3.out.size))
  have OW4 := Lib.hid (OW3.out.keep hb4)
  have HBX4 := Lib.hid (blk_below HBX3.out hb4 (lt_of_block HBX3.out))
  have ON4 := Lib.hid own4
  clear own4 hb4 KOF HB3 OW3 HBX3
  go_upto_region 3 with fail
  have hbn := heap_alloc_new w4 (.cells #[.int .i64 l.length, .slice A4 (allM W H l l.length).length c4] 52)
  have h45 : Below w4.heap.size w4 (w4.alloc (.cells #[.int .i64 l.length, .slice A4 (allM W H l l.length).length c4] 52)) := (Below.refl _ _).alloc (Nat.le_refl _) _
  have HB5 := Lib.hid (HB4.out.trans (h45.mono HB4.out.size))
  have OW5 := Lib.hid (OW4.out.keep h45)
  have ON5 := Lib.hid (ON4.out.keep h45)
  have hbx := blk_below HBX4.out h45 (lt_of_block HBX4.out)
  generalize w4.alloc (.cells #[.int .i64 l.length, .slice A4 (allM W H l l.length).length c4] 52) = w5 at hbn HB5 OW5 ON5 hbx ⊢
  generalize w4.heap.size = XN at hbn ⊢
  clear h45 HB4 OW4 ON4 HBX4
  have q0 := blk_cell hbx 0
  have q1 := blk_cell hbx 1
  have q2 := blk_cell hbx 2
  have q3 := blk_cell hbx 3
  have q4 := blk_cell hbx 4
  have q5 := blk_cell hbx 5
  have zq := lt_of_block hbx
  simp only [List.getElem?_toArray, List.getElem?_cons_zero, List.getElem?_cons_succ] at q0 q1 q2 q3 q4 q5
  have n0 := blk_cell hbn 0
  have n1 := blk_cell hbn 1
  have zn := lt_of_block hbn
  simp only [List.getElem?_toArray, List.getElem?_cons_zero, List.getElem?_cons_succ] at n0 n1
  have hsl := SV2.out.slot i hi g HG.out
  obtain ⟨e1, e2, e3⟩ := hsl.net
  have hgood := hsl.fo.gd
  have hpos := hsl.fo.c1
  have htl := hsl.fo.tt
  have hfl := hsl.po.fr
  rw [e1, e2] at hgood
  rw [e2] at hpos
  rw [e1] at htl hfl
  have hlk : Dijk.look l.length (allM W H l l.length) [(g.f : Int)] = 0 := by
    have h1 := pos_goodS hgood hpos
    rw [Dijk.look, if_neg (by simpa using h1)]
    exact lookE_zeroS.2 (by intro y hy; simp at hy; omega)
  have hla : (allM W H l l.length).length ≤ 9223372036854775807 := by have := hgood.len; omega
  have kd := dist_yes l.length A4 c4 (allM W H l l.length) g.f hla hlk w5 ON5.out.sl.2
  rw [Int.toNat_natCast] at kd
  have KD := Lib.hid kd
  have HSL := Lib.hid hsl
  have HTL := Lib.hid htl
  have HLA := Lib.hid hla
  clear e1 e2 e3 hgood hpos hfl hlk kd hsl hbn hbx hla
  go_wp2_with fail
  refine KD.out.mono ?_
  rintro e w6 ⟨S6, M, rfl, own6, hb6, HSH⟩
  have hMl : M.length = l.length := own6.sl.1.symm
  obtain ⟨m0, m1⟩ := own_atG (0 : Int) hMl own6 htl
  simp only [ci] at m0
  have HB6 := Lib.hid (HB5.out.trans (hb6.mono HB5.out.size))
  have ON6 := Lib.hid (ON5.out.keep hb6)
  have OW6 := Lib.hid (OW5.out.keep hb6)
  have p0 := (hb6.cell (p := ⟨XA, 0, none⟩) zq).trans q0
  have p1 := (hb6.cell (p := ⟨XA, 1, none⟩) zq).trans q1
  have p2 := (hb6.cell (p := ⟨XA, 2, none⟩) zq).trans q2
  have p3 := (hb6.cell (p := ⟨XA, 3, none⟩) zq).trans q3
  have p4 := (hb6.cell (p := ⟨XA, 4, none⟩) zq).trans q4
  have p5 := (hb6.cell (p := ⟨XA, 5, none⟩) zq).trans q5
  have o0 := (hb6.cell (p := ⟨XN, 0, none⟩) zn).trans n0
  have o1 := (hb6.cell (p := ⟨XN, 1, none⟩) zn).trans n1
  have zq6 := Nat.lt_of_lt_of_le zq hb6.size
  have zn6 := Nat.lt_of_lt_of_le zn hb6.size
  have zs6 : S6 < w6.heap.size := (own6.base_ S6 rfl).2
  have hfacts := SL.last HSL.out HSH.out HR.out
  obtain ⟨hlo, hhi⟩ := HSH.out.lo g.F.tt (by omega) (by omega)
  have hdm : dg M (g.F.tt : Int) = M.getD g.F.tt 0 := by unfold dg; simp
  rw [hdm] at hfacts hlo hhi
  generalize M.getD g.F.tt 0 = mt at *
  have ztt : (g.F.tt : Int) < (l.length : Int) := by omega
  clear q0 q1 q2 q3 q4 q5 n0 n1 hb6 own6 zq zn hdm KD hMl htl
  by_cases hfar : mt = far
  · have hc := (hfacts.1 hfar).1
    have hfar' : mt = 1099511627776 := hfar
    subst hfar'
    rw [hc] at p4
    change w6.cell? _ = some (.int .i64 1099511627776) at p4
    clear hfacts hlo hhi hfar hc
    go_wp2
    go_ret
    exact ⟨rfl, HB6.out⟩
  · have hlt : mt < far := by omega
    obtain ⟨_, h2, ⟨d1, d2⟩, u1, u2⟩ := hfacts
    obtain ⟨⟨c0, cf⟩, hcost, hhd, hla, hpl, hw, hge⟩ := h2 hlt
    have hfar' : (mt == 1099511627776) = false := by rw [beq_eq_false_iff_ne]; exact hfar
    generalize hco : r.cost = co at *
    generalize hP : r.num = p at *
    generalize hQ : r.den = q at *
    have hff : far = 1099511627776 := rfl
    have hq1 : 0 ≤ co * q := Int.mul_nonneg c0 (by omega)
    have hq2 : co * q ≤ 1099511627776 * 1000000 := Int.mul_le_mul (by omega) (by omega) (by omega) (by omega)
    have hq3 : 0 ≤ p * mt := Int.mul_nonneg (by omega) (by omega)
    have hq4 : p * mt ≤ 1000000 * 1099511627776 := Int.mul_le_mul (by omega) (by omega) (by omega) (by omega)
    have kw := fun W' (hW : Below w6.heap.size w6 W') => walks_any l.length co g.f g.F.tt A4 c4 (allM W H l l.length) A1 r.path.length c1 r.path W' ((ON6.out.keep hW).sl.2) ((OW6.out.keep hW).sl.2) rfl HLA.out (by omega) hcost hhd hla
    have kt := fun W' => times_any co p q mt W' (by omega) (by omega) (by rw [Int.mul_comm]; exact hw)
    have hcl : ∀ W', Below w6.heap.size w6 W' → W'.cell? ⟨XN, 0, none⟩ = some (.int .i64 l.length) ∧ W'.cell? ⟨XN, 1, none⟩ = some (.slice A4 (allM W H l l.length).length c4) ∧ W'.cell? ⟨XA, 0, none⟩ = some (.int .i64 2) ∧ W'.cell? ⟨XA, 1, none⟩ = some (.int .i64 p) ∧ W'.cell? ⟨XA, 2, none⟩ = some (.int .i64 q) ∧ W'.cell? ⟨XA, 3, none⟩ = some (.slice A1 r.path.length c1) ∧ W'.cell? ⟨XA, 4, none⟩ = some (.int .i64 co) ∧ W'.cell? ⟨S6, g.F.tt, none⟩ = some (.int .i64 mt) := fun W' hW => ⟨(hW.cell (p := ⟨XN, 0, none⟩) zn6).trans o0, (hW.cell (p := ⟨XN, 1, none⟩) zn6).trans o1, (hW.cell (p := ⟨XA, 0, none⟩) zq6).trans p0, (hW.cell (p := ⟨XA, 1, none⟩) zq6).trans p1, (hW.cell (p := ⟨XA, 2, none⟩) zq6).trans p2, (hW.cell (p := ⟨XA, 3, none⟩) zq6).trans p3, (hW.cell (p := ⟨XA, 4, none⟩) zq6).trans p4, (hW.cell (p := ⟨S6, g.F.tt, none⟩) zs6).trans m0⟩
    have KW := Lib.hid kw
    have KT := Lib.hid kt
    have HCL := Lib.hid hcl
    have HW2 := Lib.hid hw
    have HGE := Lib.hid hge
    have HCO := Lib.hid (And.intro hco (And.intro hP hQ))
    clear kw kt hcl hq1 hq2 hq3 hq4 hw hge hcost hhd hla hpl c0 cf d1 d2 u1 u2 hlt hff hco hP hQ h2 hfar hlo hhi
    go_upto_region 12 with fail
    have s0 := HCL.out w6.drew (Below.refl _ _).drew
    refine Go.wp_region_held_drew (S := (fun w' => w'.cell? ⟨XN, 0, none⟩ = some (.int .i64 l.length) ∧ w'.cell? ⟨XN, 1, none⟩ = some (.slice A4 (allM W H l l.length).length c4) ∧ w'.cell? ⟨XA, 0, none⟩ = some (.int .i64 2) ∧ w'.cell? ⟨XA, 1, none⟩ = some (.int .i64 p) ∧ w'.cell? ⟨XA, 2, none⟩ = some (.int .i64 q) ∧ w'.cell? ⟨XA, 3, none⟩ = some (.slice A1 r.path.length c1) ∧ w'.cell? ⟨XA, 4, none⟩ = some (.int .i64 co) ∧ w'.cell? ⟨S6, g.F.tt, none⟩ = some (.int .i64 mt))) (by kernel_rfl) s0 (fun hHeld => ?_)
    refine Go.wpAnyH_take (fuel := 44) (i := 0) (oi := _) (v := ?_) rfl (by kernel_rfl) (by kernel_rfl) (by kernel_rfl) (fun _ _ _ h => h) (Or.inl ⟨by rfl, ?_⟩) (by first | exact hHeld | assumption) ?_
    rotate_left
    · (intro w hSw; (try dsimp only at hSw); (try unfold SN at hSw); go_simp)
      try with_reducible rfl
    try simp only [Act.put, List.getElem_toArray, List.getElem_cons_succ, List.getElem_cons_zero, List.setIfInBounds_toArray, List.set_cons_zero, List.set_cons_succ]
    refine Go.wpAnyH_take (fuel := 43) (i := 1) (oi := _) (v := ?_) rfl (by kernel_rfl) (by kernel_rfl) (by kernel_rfl) (fun _ _ _ h => h) (Or.inl ⟨by rfl, ?_⟩) (by first | exact hHeld | assumption) ?_
    rotate_left
    · (intro w hSw; (try dsimp only at hSw); (try unfold SN at hSw); go_simp)
      try with_reducible rfl
    try simp only [Act.put, List.getElem_toArray, List.getElem_cons_succ, List.getElem_cons_zero, List.setIfInBounds_toArray, List.set_cons_zero, List.set_cons_succ]
    refine Go.wpAnyH_take (fuel := 42) (i := 2) (oi := _) (v := ?_) rfl (by kernel_rfl) (by kernel_rfl) (by kernel_rfl) (fun _ _ _ h => h) (Or.inl ⟨by rfl, ?_⟩) (by first | exact hHeld | assumption) ?_
    rotate_left
    · (intro w hSw; (try dsimp only at hSw); (try unfold SN at hSw); go_simp)
      try with_reducible rfl
    try simp only [Act.put, List.getElem_toArray, List.getElem_cons_succ, List.getElem_cons_zero, List.setIfInBounds_toArray, List.set_cons_zero, List.set_cons_succ]
    refine Go.wpAnyH_take (fuel := 41) (i := 3) (oi := _) (v := ?_) rfl (by kernel_rfl) (by kernel_rfl) (by kernel_rfl) (fun _ _ _ h => h) (Or.inl ⟨by rfl, ?_⟩) (by first | exact hHeld | assumption) ?_
    rotate_left
    · (intro w hSw; (try dsimp only at hSw); (try unfold SN at hSw); go_simp)
      try with_reducible rfl
    try simp only [Act.put, List.getElem_toArray, List.getElem_cons_succ, List.getElem_cons_zero, List.setIfInBounds_toArray, List.set_cons_zero, List.set_cons_succ]
    refine Go.wpAnyH_take (fuel := 40) (i := 4) (oi := _) (v := ?_) rfl (by kernel_rfl) (by kernel_rfl) (by kernel_rfl) (fun _ _ _ h => h) (Or.inl ⟨by rfl, ?_⟩) (by first | exact hHeld | assumption) ?_
    rotate_left
    · (intro w hSw; (try dsimp only at hSw); (try unfold SN at hSw); go_simp)
      try with_reducible rfl
    try simp only [Act.put, List.getElem_toArray, List.getElem_cons_succ, List.getElem_cons_zero, List.setIfInBounds_toArray, List.set_cons_zero, List.set_cons_succ]
    refine Go.wpAnyH_take (fuel := 39) (i := 5) (oi := _) (v := ?_) rfl (by kernel_rfl) (by kernel_rfl) (by kernel_rfl) (fun _ _ _ h => h) (Or.inl ⟨by rfl, ?_⟩) (by first | exact hHeld | assumption) ?_
    rotate_left
    · (intro w hSw; (try dsimp only at hSw); (try unfold SN at hSw); go_simp)
      try with_reducible rfl
    try simp only [Act.put, List.getElem_toArray, List.getElem_cons_succ, List.getElem_cons_zero, List.setIfInBounds_toArray, List.set_cons_zero, List.set_cons_succ]
    refine Go.wpAnyH_ready (fuel := 38) (rs := [6]) (by kernel_rfl) (by simp) ?_
    refine Go.AllReadyH.cons (o := _) rfl (fun K hK => ?_) Go.AllReadyH.nil
    have HKX := Lib.hid hK
    clear hK
    go_simp
    go_at_call 47
    refine (KW.out _ (Below.refl _ _).drew).mono ?_
    rintro e w7 ⟨rfl, hb7⟩
    have HB7 := Lib.hid ((Below.refl w6.heap.size w6).drew.trans (hb7.mono (Nat.le_refl _)))
    clear hb7
    have k1s := HCL.out _ HB7.out
    refine HKX.out.out _ _ k1s (fun hHeld => ?_)
    clear HKX
    try simp only [Act.put, List.getElem_toArray, List.getElem_cons_succ, List.getElem_cons_zero, List.setIfInBounds_toArray, List.set_cons_zero, List.set_cons_succ]
    refine Go.wpAnyH_take (fuel := 37) (i := 7) (oi := _) (v := ?_) rfl (by kernel_rfl) (by kernel_rfl) (by kernel_rfl) (fun _ _ _ h => h) (Or.inl ⟨by rfl, ?_⟩) (by first | exact hHeld | assumption) ?_
    rotate_left
    · (intro w hSw; (try dsimp only at hSw); (try unfold SN at hSw); go_simp)
      try with_reducible rfl
    try simp only [Act.put, List.getElem_toArray, List.getElem_cons_succ, List.getElem_cons_zero, List.setIfInBounds_toArray, List.set_cons_zero, List.set_cons_succ]
    refine Go.wpAnyH_take (fuel := 36) (i := 8) (oi := _) (v := ?_) rfl (by kernel_rfl) (by kernel_rfl) (by kernel_rfl) (fun _ _ _ h => h) (Or.inl ⟨by rfl, ?_⟩) (by first | exact hHeld | assumption) ?_
    rotate_left
    · (intro w hSw; (try dsimp only at hSw); (try unfold SN at hSw); go_simp)
      try with_reducible rfl
    try simp only [Act.put, List.getElem_toArray, List.getElem_cons_succ, List.getElem_cons_zero, List.setIfInBounds_toArray, List.set_cons_zero, List.set_cons_succ]
    refine Go.wpAnyH_take (fuel := 35) (i := 9) (oi := _) (v := ?_) rfl (by kernel_rfl) (by kernel_rfl) (by kernel_rfl) (fun _ _ _ h => h) (Or.inl ⟨by rfl, ?_⟩) (by first | exact hHeld | assumption) ?_
    rotate_left
    · (intro w hSw; (try dsimp only at hSw); (try unfold SN at hSw); go_simp)
      try with_reducible rfl
    try simp only [Act.put, List.getElem_toArray, List.getElem_cons_succ, List.getElem_cons_zero, List.setIfInBounds_toArray, List.set_cons_zero, List.set_cons_succ]
    refine Go.wpAnyH_take (fuel := 34) (i := 10) (oi := _) (v := ?_) rfl (by kernel_rfl) (by kernel_rfl) (by kernel_rfl) (fun _ _ _ h => h) (Or.inl ⟨by rfl, ?_⟩) (by first | exact hHeld | assumption) ?_
    rotate_left
    · (intro w hSw; (try dsimp only at hSw); (try unfold SN at hSw); go_simp)
      try with_reducible rfl
    try simp only [Act.put, List.getElem_toArray, List.getElem_cons_succ, List.getElem_cons_zero, List.setIfInBounds_toArray, List.set_cons_zero, List.set_cons_succ]
    refine Go.wpAnyH_take (fuel := 33) (i := 11) (oi := _) (v := ?_) rfl (by kernel_rfl) (by kernel_rfl) (by kernel_rfl) (fun _ _ _ h => h) (Or.inl ⟨by rfl, ?_⟩) (by first | exact hHeld | assumption) ?_
    rotate_left
    · (intro w hSw; (try dsimp only at hSw); (try unfold SN at hSw); go_simp)
      try with_reducible rfl
    try simp only [Act.put, List.getElem_toArray, List.getElem_cons_succ, List.getElem_cons_zero, List.setIfInBounds_toArray, List.set_cons_zero, List.set_cons_succ]
    refine Go.wpAnyH_take (fuel := 32) (i := 12) (oi := _) (v := ?_) rfl (by kernel_rfl) (by kernel_rfl) (by kernel_rfl) (fun _ _ _ h => h) (Or.inl ⟨by rfl, ?_⟩) (by first | exact hHeld | assumption) ?_
    rotate_left
    · (intro w hSw; (try dsimp only at hSw); (try unfold SN at hSw); go_simp)
      try with_reducible rfl
    try simp only [Act.put, List.getElem_toArray, List.getElem_cons_succ, List.getElem_cons_zero, List.setIfInBounds_toArray, List.set_cons_zero, List.set_cons_succ]
    refine Go.wpAnyH_take (fuel := 31) (i := 13) (oi := _) (v := ?_) rfl (by kernel_rfl) (by kernel_rfl) (by kernel_rfl) (fun _ _ _ h => h) (Or.inl ⟨by rfl, ?_⟩) (by first | exact hHeld | assumption) ?_
    rotate_left
    · (intro w hSw; (try dsimp only at hSw); (try unfold SN at hSw); go_simp)
      try with_reducible rfl
    try simp only [Act.put, List.getElem_toArray, List.getElem_cons_succ, List.getElem_cons_zero, List.setIfInBounds_toArray, List.set_cons_zero, List.set_cons_succ]
    refine Go.wpAnyH_take (fuel := 30) (i := 14) (oi := _) (v := ?_) rfl (by kernel_rfl) (by kernel_rfl) (by kernel_rfl) (fun _ _ _ h => h) (Or.inl ⟨by rfl, ?_⟩) (by first | exact hHeld | assumption) ?_
    rotate_left
    · (intro w hSw; (try dsimp only at hSw); (try unfold SN at hSw); go_simp)
      try with_reducible rfl
    try simp only [Act.put, List.getElem_toArray, List.getElem_cons_succ, List.getElem_cons_zero, List.setIfInBounds_toArray, List.set_cons_zero, List.set_cons_succ]
    refine Go.wpAnyH_take (fuel := 29) (i := 15) (oi := _) (v := ?_) rfl (by kernel_rfl) (by kernel_rfl) (by kernel_rfl) (fun _ _ _ h => h) (Or.inl ⟨by rfl, ?_⟩) (by first | exact hHeld | assumption) ?_
    rotate_left
    · (intro w hSw; (try dsimp only at hSw); (try unfold SN at hSw); go_simp)
      try with_reducible rfl
    try simp only [Act.put, List.getElem_toArray, List.getElem_cons_succ, List.getElem_cons_zero, List.setIfInBounds_toArray, List.set_cons_zero, List.set_cons_succ]
    refine Go.wpAnyH_take (fuel := 28) (i := 16) (oi := _) (v := ?_) rfl (by kernel_rfl) (by kernel_rfl) (by kernel_rfl) (fun _ _ _ h => h) (Or.inl ⟨by rfl, ?_⟩) (by first | exact hHeld | assumption) ?_
    rotate_left
    · (intro w hSw; (try dsimp only at hSw); (try unfold SN at hSw); go_simp)
      try with_reducible rfl
    try simp only [Act.put, List.getElem_toArray, List.getElem_cons_succ, List.getElem_cons_zero, List.setIfInBounds_toArray, List.set_cons_zero, List.set_cons_succ]
    refine Go.wpAnyH_take (fuel := 27) (i := 17) (oi := _) (v := ?_) rfl (by kernel_rfl) (by kernel_rfl) (by kernel_rfl) (fun _ _ _ h => h) (Or.inl ⟨by rfl, ?_⟩) (by first | exact hHeld | assumption) ?_
    rotate_left
    · (intro w hSw; (try dsimp only at hSw); (try unfold SN at hSw); go_simp)
      try with_reducible rfl
    try simp only [Act.put, List.getElem_toArray, List.getElem_cons_succ, List.getElem_cons_zero, List.setIfInBounds_toArray, List.set_cons_zero, List.set_cons_succ]
    refine Go.wpAnyH_take (fuel := 26) (i := 18) (oi := _) (v := ?_) rfl (by kernel_rfl) (by kernel_rfl) (by kernel_rfl) (fun _ _ _ h => h) (Or.inl ⟨by rfl, ?_⟩) (by first | exact hHeld | assumption) ?_
    rotate_left
    · (intro w hSw; (try dsimp only at hSw); (try unfold SN at hSw); go_simp)
      try with_reducible rfl
    try simp only [Act.put, List.getElem_toArray, List.getElem_cons_succ, List.getElem_cons_zero, List.setIfInBounds_toArray, List.set_cons_zero, List.set_cons_succ]
    refine Go.wpAnyH_ready (fuel := 25) (rs := [19]) (by kernel_rfl) (by simp) ?_
    refine Go.AllReadyH.cons (o := _) rfl (fun K hK => ?_) Go.AllReadyH.nil
    have HKX := Lib.hid hK
    clear hK
    go_simp
    go_at_call 48
    refine (KT.out _).mono ?_
    rintro e w8 ⟨rfl, hb8⟩
    have HB8 := Lib.hid (HB7.out.trans (hb8.mono HB7.out.size))
    clear hb8
    have k2s := HCL.out _ HB8.out
    refine HKX.out.out _ _ k2s (fun hHeld => ?_)
    clear HKX
    try simp only [Act.put, List.getElem_toArray, List.getElem_cons_succ, List.getElem_cons_zero, List.setIfInBounds_toArray, List.set_cons_zero, List.set_cons_succ]
    refine Go.wpAnyH_take (fuel := 24) (i := 20) (oi := _) (v := ?_) rfl (by kernel_rfl) (by kernel_rfl) (by kernel_rfl) (fun _ _ _ h => h) (Or.inl ⟨by rfl, ?_⟩) (by first | exact hHeld | assumption) ?_
    rotate_left
    · (intro w hSw; (try dsimp only at hSw); (try unfold SN at hSw); go_simp)
      try with_reducible rfl
    try simp only [Act.put, List.getElem_toArray, List.getElem_cons_succ, List.getElem_cons_zero, List.setIfInBounds_toArray, List.set_cons_zero, List.set_cons_succ]
    refine Go.wpAnyH_take (fuel := 23) (i := 21) (oi := _) (v := ?_) rfl (by kernel_rfl) (by kernel_rfl) (by kernel_rfl) (fun _ _ _ h => h) (Or.inl ⟨by rfl, ?_⟩) (by first | exact hHeld | assumption) ?_
    rotate_left
    · (intro w hSw; (try dsimp only at hSw); (try unfold SN at hSw); go_simp)
      try with_reducible rfl
    try simp only [Act.put, List.getElem_toArray, List.getElem_cons_succ, List.getElem_cons_zero, List.setIfInBounds_toArray, List.set_cons_zero, List.set_cons_succ]
    refine Go.wpAnyH_take (fuel := 22) (i := 22) (oi := _) (v := ?_) rfl (by kernel_rfl) (by kernel_rfl) (by kernel_rfl) (fun _ _ _ h => h) (Or.inl ⟨by rfl, ?_⟩) (by first | exact hHeld | assumption) ?_
    rotate_left
    · (intro w hSw; (try dsimp only at hSw); (try unfold SN at hSw); go_simp)
      try with_reducible rfl
    try simp only [Act.put, List.getElem_toArray, List.getElem_cons_succ, List.getElem_cons_zero, List.setIfInBounds_toArray, List.set_cons_zero, List.set_cons_succ]
    refine Go.wpAnyH_take (fuel := 21) (i := 23) (oi := _) (v := ?_) rfl (by kernel_rfl) (by kernel_rfl) (by kernel_rfl) (fun _ _ _ h => h) (Or.inl ⟨by rfl, ?_⟩) (by first | exact hHeld | assumption) ?_
    rotate_left
    · (intro w hSw; (try dsimp only at hSw); (try unfold SN at hSw); go_simp)
      try with_reducible rfl
    try simp only [Act.put, List.getElem_toArray, List.getElem_cons_succ, List.getElem_cons_zero, List.setIfInBounds_toArray, List.set_cons_zero, List.set_cons_succ]
    refine Go.wpAnyH_take (fuel := 20) (i := 24) (oi := _) (v := ?_) rfl (by kernel_rfl) (by kernel_rfl) (by kernel_rfl) (fun _ _ _ h => h) (Or.inl ⟨by rfl, ?_⟩) (by first | exact hHeld | assumption) ?_
    rotate_left
    · (intro w hSw; (try dsimp only at hSw); (try unfold SN at hSw); go_simp)
      try with_reducible rfl
    try simp only [Act.put, List.getElem_toArray, List.getElem_cons_succ, List.getElem_cons_zero, List.setIfInBounds_toArray, List.set_cons_zero, List.set_cons_succ]
    refine Go.wpAnyH_take (fuel := 19) (i := 25) (oi := _) (v := ?_) rfl (by kernel_rfl) (by kernel_rfl) (by kernel_rfl) (fun _ _ _ h => h) (Or.inl ⟨by rfl, ?_⟩) (by first | exact hHeld | assumption) ?_
    rotate_left
    · (intro w hSw; (try dsimp only at hSw); (try unfold SN at hSw); go_simp)
      try with_reducible rfl
    try simp only [Act.put, List.getElem_toArray, List.getElem_cons_succ, List.getElem_cons_zero, List.setIfInBounds_toArray, List.set_cons_zero, List.set_cons_succ]
    refine Go.wpAnyH_take (fuel := 18) (i := 26) (oi := _) (v := undef) rfl (by kernel_rfl) (by kernel_rfl) (by kernel_rfl) (fun _ _ _ h => h) (Or.inr ⟨by rfl, rfl⟩) (by first | exact hHeld | assumption) ?_
    try simp only [Act.put, List.getElem_toArray, List.getElem_cons_succ, List.getElem_cons_zero, List.setIfInBounds_toArray, List.set_cons_zero, List.set_cons_succ]
    refine Go.wpAnyH_take (fuel := 17) (i := 27) (oi := _) (v := undef) rfl (by kernel_rfl) (by kernel_rfl) (by kernel_rfl) (fun _ _ _ h => h) (Or.inr ⟨by rfl, rfl⟩) (by first | exact hHeld | assumption) ?_
    try simp only [Act.put, List.getElem_toArray, List.getElem_cons_succ, List.getElem_cons_zero, List.setIfInBounds_toArray, List.set_cons_zero, List.set_cons_succ]
    refine Go.wpAnyH_take (fuel := 16) (i := 28) (oi := _) (v := undef) rfl (by kernel_rfl) (by kernel_rfl) (by kernel_rfl) (fun _ _ _ h => h) (Or.inr ⟨by rfl, rfl⟩) (by first | exact hHeld | assumption) ?_
    try simp only [Act.put, List.getElem_toArray, List.getElem_cons_succ, List.getElem_cons_zero, List.setIfInBounds_toArray, List.set_cons_zero, List.set_cons_succ]
    refine Go.wpAnyH_take (fuel := 15) (i := 29) (oi := _) (v := undef) rfl (by kernel_rfl) (by kernel_rfl) (by kernel_rfl) (fun _ _ _ h => h) (Or.inr ⟨by rfl, rfl⟩) (by first | exact hHeld | assumption) ?_
    try simp only [Act.put, List.getElem_toArray, List.getElem_cons_succ, List.getElem_cons_zero, List.setIfInBounds_toArray, List.set_cons_zero, List.set_cons_succ]
    refine Go.wpAnyH_take (fuel := 14) (i := 30) (oi := _) (v := undef) rfl (by kernel_rfl) (by kernel_rfl) (by kernel_rfl) (fun _ _ _ h => h) (Or.inr ⟨by rfl, rfl⟩) (by first | exact hHeld | assumption) ?_
    try simp only [Act.put, List.getElem_toArray, List.getElem_cons_succ, List.getElem_cons_zero, List.setIfInBounds_toArray, List.set_cons_zero, List.set_cons_succ]
    refine Go.wpAnyH_take (fuel := 13) (i := 31) (oi := _) (v := ?_) rfl (by kernel_rfl) (by kernel_rfl) (by kernel_rfl) (fun _ _ _ h => h) (Or.inl ⟨by rfl, ?_⟩) (by first | exact hHeld | assumption) ?_
    rotate_left
    · (intro w hSw; (try dsimp only at hSw); (try unfold SN at hSw); go_simp)
      try with_reducible rfl
    try simp only [Act.put, List.getElem_toArray, List.getElem_cons_succ, List.getElem_cons_zero, List.setIfInBounds_toArray, List.set_cons_zero, List.set_cons_succ]
    refine Go.wpAnyH_take (fuel := 12) (i := 32) (oi := _) (v := ?_) rfl (by kernel_rfl) (by kernel_rfl) (by kernel_rfl) (fun _ _ _ h => h) (Or.inl ⟨by rfl, ?_⟩) (by first | exact hHeld | assumption) ?_
    rotate_left
    · (intro w hSw; (try dsimp only at hSw); (try unfold SN at hSw); go_simp)
      try with_reducible rfl
    try simp only [Act.put, List.getElem_toArray, List.getElem_cons_succ, List.getElem_cons_zero, List.setIfInBounds_toArray, List.set_cons_zero, List.set_cons_succ]
    refine Go.wpAnyH_take (fuel := 11) (i := 33) (oi := _) (v := undef) rfl (by kernel_rfl) (by kernel_rfl) (by kernel_rfl) (fun _ _ _ h => h) (Or.inr ⟨by rfl, rfl⟩) (by first | exact hHeld | assumption) ?_
    try simp only [Act.put, List.getElem_toArray, List.getElem_cons_succ, List.getElem_cons_zero, List.setIfInBounds_toArray, List.set_cons_zero, List.set_cons_succ]
    refine Go.wpAnyH_take (fuel := 10) (i := 34) (oi := _) (v := undef) rfl (by kernel_rfl) (by kernel_rfl) (by kernel_rfl) (fun _ _ _ h => h) (Or.inr ⟨by rfl, rfl⟩) (by first | exact hHeld | assumption) ?_
    try simp only [Act.put, List.getElem_toArray, List.getElem_cons_succ, List.getElem_cons_zero, List.setIfInBounds_toArray, List.set_cons_zero, List.set_cons_succ]
    refine Go.wpAnyH_take (fuel := 9) (i := 35) (oi := _) (v := undef) rfl (by kernel_rfl) (by kernel_rfl) (by kernel_rfl) (fun _ _ _ h => h) (Or.inr ⟨by rfl, rfl⟩) (by first | exact hHeld | assumption) ?_
    try simp only [Act.put, List.getElem_toArray, List.getElem_cons_succ, List.getElem_cons_zero, List.setIfInBounds_toArray, List.set_cons_zero, List.set_cons_succ]
    refine Go.wpAnyH_take (fuel := 8) (i := 36) (oi := _) (v := undef) rfl (by kernel_rfl) (by kernel_rfl) (by kernel_rfl) (fun _ _ _ h => h) (Or.inr ⟨by rfl, rfl⟩) (by first | exact hHeld | assumption) ?_
    try simp only [Act.put, List.getElem_toArray, List.getElem_cons_succ, List.getElem_cons_zero, List.setIfInBounds_toArray, List.set_cons_zero, List.set_cons_succ]
    refine Go.wpAnyH_take (fuel := 7) (i := 37) (oi := _) (v := undef) rfl (by kernel_rfl) (by kernel_rfl) (by kernel_rfl) (fun _ _ _ h => h) (Or.inr ⟨by rfl, rfl⟩) (by first | exact hHeld | assumption) ?_
    try simp only [Act.put, List.getElem_toArray, List.getElem_cons_succ, List.getElem_cons_zero, List.setIfInBounds_toArray, List.set_cons_zero, List.set_cons_succ]
    refine Go.wpAnyH_take (fuel := 6) (i := 38) (oi := _) (v := undef) rfl (by kernel_rfl) (by kernel_rfl) (by kernel_rfl) (fun _ _ _ h => h) (Or.inr ⟨by rfl, rfl⟩) (by first | exact hHeld | assumption) ?_
    try simp only [Act.put, List.getElem_toArray, List.getElem_cons_succ, List.getElem_cons_zero, List.setIfInBounds_toArray, List.set_cons_zero, List.set_cons_succ]
    refine Go.wpAnyH_take (fuel := 5) (i := 39) (oi := _) (v := undef) rfl (by kernel_rfl) (by kernel_rfl) (by kernel_rfl) (fun _ _ _ h => h) (Or.inr ⟨by rfl, rfl⟩) (by first | exact hHeld | assumption) ?_
    try simp only [Act.put, List.getElem_toArray, List.getElem_cons_succ, List.getElem_cons_zero, List.setIfInBounds_toArray, List.set_cons_zero, List.set_cons_succ]
    refine Go.wpAnyH_take (fuel := 4) (i := 40) (oi := _) (v := undef) rfl (by kernel_rfl) (by kernel_rfl) (by kernel_rfl) (fun _ _ _ h => h) (Or.inr ⟨by rfl, rfl⟩) (by first | exact hHeld | assumption) ?_
    try simp only [Act.put, List.getElem_toArray, List.getElem_cons_succ, List.getElem_cons_zero, List.setIfInBounds_toArray, List.set_cons_zero, List.set_cons_succ]
    refine Go.wpAnyH_take (fuel := 3) (i := 41) (oi := _) (v := undef) rfl (by kernel_rfl) (by kernel_rfl) (by kernel_rfl) (fun _ _ _ h => h) (Or.inr ⟨by rfl, rfl⟩) (by first | exact hHeld | assumption) ?_
    try simp only [Act.put, List.getElem_toArray, List.getElem_cons_succ, List.getElem_cons_zero, List.setIfInBounds_toArray, List.set_cons_zero, List.set_cons_succ]
    refine Go.wpAnyH_take (fuel := 2) (i := 42) (oi := _) (v := ?_) rfl (by kernel_rfl) (by kernel_rfl) (by kernel_rfl) (fun _ _ _ h => h) (Or.inl ⟨by rfl, ?_⟩) (by first | exact hHeld | assumption) ?_
    rotate_left
    · (intro w hSw; (try dsimp only at hSw); (try unfold SN at hSw); go_simp)
      try with_reducible rfl
    try simp only [Act.put, List.getElem_toArray, List.getElem_cons_succ, List.getElem_cons_zero, List.setIfInBounds_toArray, List.set_cons_zero, List.set_cons_succ]
    refine Go.wpAnyH_take (fuel := 1) (i := 43) (oi := _) (v := ?_) rfl (by kernel_rfl) (by kernel_rfl) (by kernel_rfl) (fun _ _ _ h => h) (Or.inl ⟨by rfl, ?_⟩) (by first | exact hHeld | assumption) ?_
    rotate_left
    · (intro w hSw; (try dsimp only at hSw); (try unfold SN at hSw); go_simp)
      try with_reducible rfl
    try simp only [Act.put, List.getElem_toArray, List.getElem_cons_succ, List.getElem_cons_zero, List.setIfInBounds_toArray, List.set_cons_zero, List.set_cons_succ]
    refine Go.wpAnyH_take (fuel := 0) (i := 44) (oi := _) (v := ?_) rfl (by kernel_rfl) (by kernel_rfl) (by kernel_rfl) (fun _ _ _ h => h) (Or.inl ⟨by rfl, ?_⟩) (by first | exact hHeld | assumption) ?_
    rotate_left
    · (intro w hSw; (try dsimp only at hSw); (try unfold SN at hSw); go_simp)
      try with_reducible rfl
    try simp only [Act.put, List.getElem_toArray, List.getElem_cons_succ, List.getElem_cons_zero, List.setIfInBounds_toArray, List.set_cons_zero, List.set_cons_succ]
    refine Go.wpAnyH_done (by kernel_rfl) ?_ _
    have HFIN := Lib.hid (HB6.out.trans (HB8.out.mono HB6.out.size))
    clear HCL KW KT s0 k1s k2s  HB7 HB8 HB6 p0 p1 p2 p3 p4 p5 o0 o1 m0 m1 HSH
    go_wp2
    go_ret
    exact ⟨rfl, HFIN.out⟩
set_option maxRecDepth 100000 in
set_option maxHeartbeats 16000000 in
theorem good_four (h : SV b0 w Z W H AC cC l turn σ D) {i : Nat} (hi : i < 6) {g : Slt} (hg : σ i = some g) {r : Rnd} (kp : Calls Try.prog 14 #[.pointer (some ⟨Z, 0, none⟩), .int .i64 i] w fun e w' => AnsSays 4 r w e w') {R0 : List Rnd} (hr : g.s.rds = R0 ++ [r]) :
    Calls Try.prog 22 #[.pointer (some ⟨Z, 0, none⟩), .int .i64 i, .int .i64 g.f, .int .i64 g.F.tt] w fun e w' => e = .returned (.bool true) ∧ Below w.heap.size w w' := by
  have SV0 := Lib.hid h
  have HG := Lib.hid hg
  have KP := Lib.hid kp
  have hl64 := size_bd h.good
  clear h hg kp
  have HR := Lib.hid hr
  clear hr
  go_enter Try.func22, Try.ntmps22
  go_wp2_with fail
  refine KP.out.mono ?_
  rintro e w1 ⟨A1, c1, rfl, own1, hb1⟩
  have HB1 := Lib.hid hb1
  have OW1 := Lib.hid own1
  clear hb1 own1 KP
  go_upto_region 2 with fail
  have hbx := heap_alloc_new w1 (.cells #[.int .i64 4, .int .i64 r.num, .int .i64 r.den, .slice A1 r.path.length c1, .int .i64 r.cost, .int .i64 r.done] 45)
  have h12 : Below w1.heap.size w1 (w1.alloc (.cells #[.int .i64 4, .int .i64 r.num, .int .i64 r.den, .slice A1 r.path.length c1, .int .i64 r.cost, .int .i64 r.done] 45)) := (Below.refl _ _).alloc (Nat.le_refl _) _
  have HB2 := Lib.hid (HB1.out.trans (h12.mono HB1.out.size))
  have OW2 := Lib.hid (OW1.out.keep h12)
  generalize w1.alloc (.cells #[.int .i64 4, .int .i64 r.num, .int .i64 r.den, .slice A1 r.path.length c1, .int .i64 r.cost, .int .i64 r.done] 45) = w2 at hbx HB2 OW2 ⊢
  generalize w1.heap.size = XA at hbx ⊢
  have HBX := Lib.hid hbx
  have SV2 := Lib.hid (SV0.out.keep HB2.out)
  obtain ⟨z0, z1, z2, _, _, zp⟩ := SV2.out.zs
  have kg := Serve.ground_any Z W H AC cC l w2 SV2.out.cells.sl.2 SV2.out.nil_ (by omega) z0 z1 z2 zp
  have KG := Lib.hid kg
  clear kg hbx h12 HB1 OW1 z0 z1 z2 zp
  go_wp2_with fail
  refine KG.out.mono ?_
  rintro e w3 ⟨A3, c3, rfl, own3, hb3⟩
  have kof := NetOf.of_yes W H A3 c3 l w3 own3.sl.2 SV2.out.good
  have KOF := Lib.hid kof
  have HB3 := Lib.hid (HB2.out.trans (hb3.mono HB2.out.size))
  have OW3 := Lib.hid (OW2.out.keep hb3)
  have HBX3 := Lib.hid (blk_below HBX.out hb3 (lt_of_block HBX.out))
  clear kof own3 hb3 KG HB2 OW2 HBX
  go_wp2_with fail
  refine KOF.out.mono ?_
  rintro e w4 ⟨A4, c4, rfl, own4, hb4⟩
  have HB4 := Lib.hid (HB3.out.trans (hb4.mono HB3.out.size))
  have OW4 := Lib.hid (OW3.out.keep hb4)
  have HBX4 := Lib.hid (blk_below HBX3.out hb4 (lt_of_block HBX3.out))
  have ON4 := Lib.hid own4
  clear own4 hb4 KOF HB3 OW3 HBX3
  go_upto_region 3 with fail
  have hbn := heap_alloc_new w4 (.cells #[.int .i64 l.length, .slice A4 (allM W H l l.length).length c4] 52)
  have h45 : Below w4.heap.size w4 (w4.alloc (.cells #[.int .i64 l.length, .slice A4 (allM W H l l.length).length c4] 52)) := (Below.refl _ _).alloc (Nat.le_refl _) _
  have HB5 := Lib.hid (HB4.out.trans (h45.mono HB4.out.size))
  have OW5 := Lib.hid (OW4.out.keep h45)
  have ON5 := Lib.hid (ON4.out.keep h45)
  have hbx := blk_below HBX4.out h45 (lt_of_block HBX4.out)
  generalize w4.alloc (.cells #[.int .i64 l.length, .slice A4 (allM W H l l.length).length c4] 52) = w5 at hbn HB5 OW5 ON5 hbx ⊢
  generalize w4.heap.size = XN at hbn ⊢
  clear h45 HB4 OW4 ON4 HBX4
  have q0 := blk_cell hbx 0
  have q1 := blk_cell hbx 1
  have q2 := blk_cell hbx 2
  have q3 := blk_cell hbx 3
  have q4 := blk_cell hbx 4
  have q5 := blk_cell hbx 5
  have zq := lt_of_block hbx
  simp only [List.getElem?_toArray, List.getElem?_cons_zero, List.getElem?_cons_succ] at q0 q1 q2 q3 q4 q5
  have n0 := blk_cell hbn 0
  have n1 := blk_cell hbn 1
  have zn := lt_of_block hbn
  simp only [List.getElem?_toArray, List.getElem?_cons_zero, List.getElem?_cons_succ] at n0 n1
  have hsl := SV2.out.slot i hi g HG.out
  obtain ⟨e1, e2, e3⟩ := hsl.net
  have hgood := hsl.fo.gd
  have hpos := hsl.fo.c1
  have htl := hsl.fo.tt
  have hfl := hsl.po.fr
  rw [e1, e2] at hgood
  rw [e2] at hpos
  rw [e1] at htl hfl
  have hlk : Dijk.look l.length (allM W H l l.length) [(g.f : Int)] = 0 := by
    have h1 := pos_goodS hgood hpos
    rw [Dijk.look, if_neg (by simpa using h1)]
    exact lookE_zeroS.2 (by intro y hy; simp at hy; omega)
  have hla : (allM W H l l.length).length ≤ 9223372036854775807 := by have := hgood.len; omega
  have kd := dist_yes l.length A4 c4 (allM W H l l.length) g.f hla hlk w5 ON5.out.sl.2
  rw [Int.toNat_natCast] at kd
  have KD := Lib.hid kd
  have HSL := Lib.hid hsl
  have HTL := Lib.hid htl
  have HLA := Lib.hid hla
  clear e1 e2 e3 hgood hpos hfl hlk kd hsl hbn hbx hla
  go_wp2_with fail
  refine KD.out.mono ?_
  rintro e w6 ⟨S6, M, rfl, own6, hb6, HSH⟩
  have hMl : M.length = l.length := own6.sl.1.symm
  obtain ⟨m0, m1⟩ := own_atG (0 : Int) hMl own6 htl
  simp only [ci] at m0
  have HB6 := Lib.hid (HB5.out.trans (hb6.mono HB5.out.size))
  have ON6 := Lib.hid (ON5.out.keep hb6)
  have OW6 := Lib.hid (OW5.out.keep hb6)
  have p0 := (hb6.cell (p := ⟨XA, 0, none⟩) zq).trans q0
  have p1 := (hb6.cell (p := ⟨XA, 1, none⟩) zq).trans q1
  have p2 := (hb6.cell (p := ⟨XA, 2, none⟩) zq).trans q2
  have p3 := (hb6.cell (p := ⟨XA, 3, none⟩) zq).trans q3
  have p4 := (hb6.cell (p := ⟨XA, 4, none⟩) zq).trans q4
  have p5 := (hb6.cell (p := ⟨XA, 5, none⟩) zq).trans q5
  have o0 := (hb6.cell (p := ⟨XN, 0, none⟩) zn).trans n0
  have o1 := (hb6.cell (p := ⟨XN, 1, none⟩) zn).trans n1
  have zq6 := Nat.lt_of_lt_of_le zq hb6.size
  have zn6 := Nat.lt_of_lt_of_le zn hb6.size
  have zs6 : S6 < w6.heap.size := (own6.base_ S6 rfl).2
  have hfacts := SL.last HSL.out HSH.out HR.out
  obtain ⟨hlo, hhi⟩ := HSH.out.lo g.F.tt (by omega) (by omega)
  have hdm : dg M (g.F.tt : Int) = M.getD g.F.tt 0 := by unfold dg; simp
  rw [hdm] at hfacts hlo hhi
  generalize M.getD g.F.tt 0 = mt at *
  have ztt : (g.F.tt : Int) < (l.length : Int) := by omega
  clear q0 q1 q2 q3 q4 q5 n0 n1 hb6 own6 zq zn hdm KD hMl htl
  by_cases hfar : mt = far
  · have hc := (hfacts.1 hfar).1
    have hfar' : mt = 1099511627776 := hfar
    subst hfar'
    rw [hc] at p4
    change w6.cell? _ = some (.int .i64 1099511627776) at p4
    clear hfacts hlo hhi hfar hc
    go_wp2
    go_ret
    exact ⟨rfl, HB6.out⟩
  · have hlt : mt < far := by omega
    obtain ⟨_, h2, ⟨d1, d2⟩, u1, u2⟩ := hfacts
    obtain ⟨⟨c0, cf⟩, hcost, hhd, hla, hpl, hw, hge⟩ := h2 hlt
    have hfar' : (mt == 1099511627776) = false := by rw [beq_eq_false_iff_ne]; exact hfar
    generalize hco : r.cost = co at *
    generalize hP : r.num = p at *
    generalize hQ : r.den = q at *
    have hff : far = 1099511627776 := rfl
    have hq1 : 0 ≤ co * q := Int.mul_nonneg c0 (by omega)
    have hq2 : co * q ≤ 1099511627776 * 1000000 := Int.mul_le_mul (by omega) (by omega) (by omega) (by omega)
    have hq3 : 0 ≤ p * mt := Int.mul_nonneg (by omega) (by omega)
    have hq4 : p * mt ≤ 1000000 * 1099511627776 := Int.mul_le_mul (by omega) (by omega) (by omega) (by omega)
    have kw := fun W' (hW : Below w6.heap.size w6 W') => walks_any l.length co g.f g.F.tt A4 c4 (allM W H l l.length) A1 r.path.length c1 r.path W' ((ON6.out.keep hW).sl.2) ((OW6.out.keep hW).sl.2) rfl HLA.out (by omega) hcost hhd hla
    have kt := fun W' => times_any co p q mt W' (by omega) (by omega) (by rw [Int.mul_comm]; exact hw)
    have hcl : ∀ W', Below w6.heap.size w6 W' → W'.cell? ⟨XN, 0, none⟩ = some (.int .i64 l.length) ∧ W'.cell? ⟨XN, 1, none⟩ = some (.slice A4 (allM W H l l.length).length c4) ∧ W'.cell? ⟨XA, 0, none⟩ = some (.int .i64 4) ∧ W'.cell? ⟨XA, 1, none⟩ = some (.int .i64 p) ∧ W'.cell? ⟨XA, 2, none⟩ = some (.int .i64 q) ∧ W'.cell? ⟨XA, 3, none⟩ = some (.slice A1 r.path.length c1) ∧ W'.cell? ⟨XA, 4, none⟩ = some (.int .i64 co) ∧ W'.cell? ⟨S6, g.F.tt, none⟩ = some (.int .i64 mt) := fun W' hW => ⟨(hW.cell (p := ⟨XN, 0, none⟩) zn6).trans o0, (hW.cell (p := ⟨XN, 1, none⟩) zn6).trans o1, (hW.cell (p := ⟨XA, 0, none⟩) zq6).trans p0, (hW.cell (p := ⟨XA, 1, none⟩) zq6).trans p1, (hW.cell (p := ⟨XA, 2, none⟩) zq6).trans p2, (hW.cell (p := ⟨XA, 3, none⟩) zq6).trans p3, (hW.cell (p := ⟨XA, 4, none⟩) zq6).trans p4, (hW.cell (p := ⟨S6, g.F.tt, none⟩) zs6).trans m0⟩
    have KW := Lib.hid kw
    have KT := Lib.hid kt
    have HCL := Lib.hid hcl
    have HW2 := Lib.hid hw
    have HGE := Lib.hid hge
    have HCO := Lib.hid (And.intro hco (And.intro hP hQ))
    clear kw kt hcl hq1 hq2 hq3 hq4 hw hge hcost hhd hla hpl c0 cf d1 d2 u1 u2 hlt hff hco hP hQ h2 hfar hlo hhi
    go_upto_region 12 with fail
    have s0 := HCL.out w6.drew (Below.refl _ _).drew
    by_cases hp1 : p = 1
    · subst hp1
      by_cases hq1 : q = 1
      · subst hq1
        have hcm : co = mt := by have h1 := HW2.out; have h2 := HGE.out; omega
        subst hcm
        refine Go.wp_region_held_drew (S := (fun w' => w'.cell? ⟨XN, 0, none⟩ = some (.int .i64 l.length) ∧ w'.cell? ⟨XN, 1, none⟩ = some (.slice A4 (allM W H l l.length).length c4) ∧ w'.cell? ⟨XA, 0, none⟩ = some (.int .i64 4) ∧ w'.cell? ⟨XA, 1, none⟩ = some (.int .i64 1) ∧ w'.cell? ⟨XA, 2, none⟩ = some (.int .i64 1) ∧ w'.cell? ⟨XA, 3, none⟩ = some (.slice A1 r.path.length c1) ∧ w'.cell? ⟨XA, 4, none⟩ = some (.int .i64 co) ∧ w'.cell? ⟨S6, g.F.tt, none⟩ = some (.int .i64 co))) (by kernel_rfl) s0 (fun hHeld => ?_)
        refine Go.wpAnyH_take (fuel := 44) (i := 0) (oi := _) (v := ?_) rfl (by kernel_rfl) (by kernel_rfl) (by kernel_rfl) (fun _ _ _ h => h) (Or.inl ⟨by rfl, ?_⟩) (by first | exact hHeld | assumption) ?_
        rotate_left
        · (intro w hSw; (try dsimp only at hSw); (try unfold SN at hSw); go_simp)
          try with_reducible rfl
        try simp only [Act.put, List.getElem_toArray, List.getElem_cons_succ, List.getElem_cons_zero, List.setIfInBounds_toArray, List.set_cons_zero, List.set_cons_succ]
        refine Go.wpAnyH_take (fuel := 43) (i := 1) (oi := _) (v := ?_) rfl (by kernel_rfl) (by kernel_rfl) (by kernel_rfl) (fun _ _ _ h => h) (Or.inl ⟨by rfl, ?_⟩) (by first | exact hHeld | assumption) ?_
        rotate_left
        · (intro w hSw; (try dsimp only at hSw); (try unfold SN at hSw); go_simp)
          try with_reducible rfl
        try simp only [Act.put, List.getElem_toArray, List.getElem_cons_succ, List.getElem_cons_zero, List.setIfInBounds_toArray, List.set_cons_zero, List.set_cons_succ]
        refine Go.wpAnyH_take (fuel := 42) (i := 2) (oi := _) (v := ?_) rfl (by kernel_rfl) (by kernel_rfl) (by kernel_rfl) (fun _ _ _ h => h) (Or.inl ⟨by rfl, ?_⟩) (by first | exact hHeld | assumption) ?_
        rotate_left
        · (intro w hSw; (try dsimp only at hSw); (try unfold SN at hSw); go_simp)
          try with_reducible rfl
        try simp only [Act.put, List.getElem_toArray, List.getElem_cons_succ, List.getElem_cons_zero, List.setIfInBounds_toArray, List.set_cons_zero, List.set_cons_succ]
        refine Go.wpAnyH_take (fuel := 41) (i := 3) (oi := _) (v := ?_) rfl (by kernel_rfl) (by kernel_rfl) (by kernel_rfl) (fun _ _ _ h => h) (Or.inl ⟨by rfl, ?_⟩) (by first | exact hHeld | assumption) ?_
        rotate_left
        · (intro w hSw; (try dsimp only at hSw); (try unfold SN at hSw); go_simp)
          try with_reducible rfl
        try simp only [Act.put, List.getElem_toArray, List.getElem_cons_succ, List.getElem_cons_zero, List.setIfInBounds_toArray, List.set_cons_zero, List.set_cons_succ]
        refine Go.wpAnyH_take (fuel := 40) (i := 4) (oi := _) (v := ?_) rfl (by kernel_rfl) (by kernel_rfl) (by kernel_rfl) (fun _ _ _ h => h) (Or.inl ⟨by rfl, ?_⟩) (by first | exact hHeld | assumption) ?_
        rotate_left
        · (intro w hSw; (try dsimp only at hSw); (try unfold SN at hSw); go_simp)
          try with_reducible rfl
        try simp only [Act.put, List.getElem_toArray, List.getElem_cons_succ, List.getElem_cons_zero, List.setIfInBounds_toArray, List.set_cons_zero, List.set_cons_succ]
        refine Go.wpAnyH_take (fuel := 39) (i := 5) (oi := _) (v := ?_) rfl (by kernel_rfl) (by kernel_rfl) (by kernel_rfl) (fun _ _ _ h => h) (Or.inl ⟨by rfl, ?_⟩) (by first | exact hHeld | assumption) ?_
        rotate_left
        · (intro w hSw; (try dsimp only at hSw); (try unfold SN at hSw); go_simp)
          try with_reducible rfl
        try simp only [Act.put, List.getElem_toArray, List.getElem_cons_succ, List.getElem_cons_zero, List.setIfInBounds_toArray, List.set_cons_zero, List.set_cons_succ]
        refine Go.wpAnyH_ready (fuel := 38) (rs := [6]) (by kernel_rfl) (by simp) ?_
        refine Go.AllReadyH.cons (o := _) rfl (fun K hK => ?_) Go.AllReadyH.nil
        have HKX := Lib.hid hK
        clear hK
        go_simp
        go_at_call 47
        refine (KW.out _ (Below.refl _ _).drew).mono ?_
        rintro e w7 ⟨rfl, hb7⟩
        have HB7 := Lib.hid ((Below.refl w6.heap.size w6).drew.trans (hb7.mono (Nat.le_refl _)))
        clear hb7
        have k1s := HCL.out _ HB7.out
        refine HKX.out.out _ _ k1s (fun hHeld => ?_)
        clear HKX
        try simp only [Act.put, List.getElem_toArray, List.getElem_cons_succ, List.getElem_cons_zero, List.setIfInBounds_toArray, List.set_cons_zero, List.set_cons_succ]
        refine Go.wpAnyH_take (fuel := 37) (i := 7) (oi := _) (v := ?_) rfl (by kernel_rfl) (by kernel_rfl) (by kernel_rfl) (fun _ _ _ h => h) (Or.inl ⟨by rfl, ?_⟩) (by first | exact hHeld | assumption) ?_
        rotate_left
        · (intro w hSw; (try dsimp only at hSw); (try unfold SN at hSw); go_simp)
          try with_reducible rfl
        try simp only [Act.put, List.getElem_toArray, List.getElem_cons_succ, List.getElem_cons_zero, List.setIfInBounds_toArray, List.set_cons_zero, List.set_cons_succ]
        refine Go.wpAnyH_take (fuel := 36) (i := 8) (oi := _) (v := ?_) rfl (by kernel_rfl) (by kernel_rfl) (by kernel_rfl) (fun _ _ _ h => h) (Or.inl ⟨by rfl, ?_⟩) (by first | exact hHeld | assumption) ?_
        rotate_left
        · (intro w hSw; (try dsimp only at hSw); (try unfold SN at hSw); go_simp)
          try with_reducible rfl
        try simp only [Act.put, List.getElem_toArray, List.getElem_cons_succ, List.getElem_cons_zero, List.setIfInBounds_toArray, List.set_cons_zero, List.set_cons_succ]
        refine Go.wpAnyH_take (fuel := 35) (i := 9) (oi := _) (v := ?_) rfl (by kernel_rfl) (by kernel_rfl) (by kernel_rfl) (fun _ _ _ h => h) (Or.inl ⟨by rfl, ?_⟩) (by first | exact hHeld | assumption) ?_
        rotate_left
        · (intro w hSw; (try dsimp only at hSw); (try unfold SN at hSw); go_simp)
          try with_reducible rfl
        try simp only [Act.put, List.getElem_toArray, List.getElem_cons_succ, List.getElem_cons_zero, List.setIfInBounds_toArray, List.set_cons_zero, List.set_cons_succ]
        refine Go.wpAnyH_take (fuel := 34) (i := 10) (oi := _) (v := ?_) rfl (by kernel_rfl) (by kernel_rfl) (by kernel_rfl) (fun _ _ _ h => h) (Or.inl ⟨by rfl, ?_⟩) (by first | exact hHeld | assumption) ?_
        rotate_left
        · (intro w hSw; (try dsimp only at hSw); (try unfold SN at hSw); go_simp)
          try with_reducible rfl
        try simp only [Act.put, List.getElem_toArray, List.getElem_cons_succ, List.getElem_cons_zero, List.setIfInBounds_toArray, List.set_cons_zero, List.set_cons_succ]
        refine Go.wpAnyH_take (fuel := 33) (i := 11) (oi := _) (v := ?_) rfl (by kernel_rfl) (by kernel_rfl) (by kernel_rfl) (fun _ _ _ h => h) (Or.inl ⟨by rfl, ?_⟩) (by first | exact hHeld | assumption) ?_
        rotate_left
        · (intro w hSw; (try dsimp only at hSw); (try unfold SN at hSw); go_simp)
          try with_reducible rfl
        try simp only [Act.put, List.getElem_toArray, List.getElem_cons_succ, List.getElem_cons_zero, List.setIfInBounds_toArray, List.set_cons_zero, List.set_cons_succ]
        refine Go.wpAnyH_take (fuel := 32) (i := 12) (oi := _) (v := ?_) rfl (by kernel_rfl) (by kernel_rfl) (by kernel_rfl) (fun _ _ _ h => h) (Or.inl ⟨by rfl, ?_⟩) (by first | exact hHeld | assumption) ?_
        rotate_left
        · (intro w hSw; (try dsimp only at hSw); (try unfold SN at hSw); go_simp)
          try with_reducible rfl
        try simp only [Act.put, List.getElem_toArray, List.getElem_cons_succ, List.getElem_cons_zero, List.setIfInBounds_toArray, List.set_cons_zero, List.set_cons_succ]
        refine Go.wpAnyH_take (fuel := 31) (i := 13) (oi := _) (v := ?_) rfl (by kernel_rfl) (by kernel_rfl) (by kernel_rfl) (fun _ _ _ h => h) (Or.inl ⟨by rfl, ?_⟩) (by first | exact hHeld | assumption) ?_
        rotate_left
        · (intro w hSw; (try dsimp only at hSw); (try unfold SN at hSw); go_simp)
          try with_reducible rfl
        try simp only [Act.put, List.getElem_toArray, List.getElem_cons_succ, List.getElem_cons_zero, List.setIfInBounds_toArray, List.set_cons_zero, List.set_cons_succ]
        refine Go.wpAnyH_take (fuel := 30) (i := 14) (oi := _) (v := ?_) rfl (by kernel_rfl) (by kernel_rfl) (by kernel_rfl) (fun _ _ _ h => h) (Or.inl ⟨by rfl, ?_⟩) (by first | exact hHeld | assumption) ?_
        rotate_left
        · (intro w hSw; (try dsimp only at hSw); (try unfold SN at hSw); go_simp)
          try with_reducible rfl
        try simp only [Act.put, List.getElem_toArray, List.getElem_cons_succ, List.getElem_cons_zero, List.setIfInBounds_toArray, List.set_cons_zero, List.set_cons_succ]
        refine Go.wpAnyH_take (fuel := 29) (i := 15) (oi := _) (v := ?_) rfl (by kernel_rfl) (by kernel_rfl) (by kernel_rfl) (fun _ _ _ h => h) (Or.inl ⟨by rfl, ?_⟩) (by first | exact hHeld | assumption) ?_
        rotate_left
        · (intro w hSw; (try dsimp only at hSw); (try unfold SN at hSw); go_simp)
          try with_reducible rfl
        try simp only [Act.put, List.getElem_toArray, List.getElem_cons_succ, List.getElem_cons_zero, List.setIfInBounds_toArray, List.set_cons_zero, List.set_cons_succ]
        refine Go.wpAnyH_take (fuel := 28) (i := 16) (oi := _) (v := ?_) rfl (by kernel_rfl) (by kernel_rfl) (by kernel_rfl) (fun _ _ _ h => h) (Or.inl ⟨by rfl, ?_⟩) (by first | exact hHeld | assumption) ?_
        rotate_left
        · (intro w hSw; (try dsimp only at hSw); (try unfold SN at hSw); go_simp)
          try with_reducible rfl
        try simp only [Act.put, List.getElem_toArray, List.getElem_cons_succ, List.getElem_cons_zero, List.setIfInBounds_toArray, List.set_cons_zero, List.set_cons_succ]
        refine Go.wpAnyH_take (fuel := 27) (i := 17) (oi := _) (v := ?_) rfl (by kernel_rfl) (by kernel_rfl) (by kernel_rfl) (fun _ _ _ h => h) (Or.inl ⟨by rfl, ?_⟩) (by first | exact hHeld | assumption) ?_
        rotate_left
        · (intro w hSw; (try dsimp only at hSw); (try unfold SN at hSw); go_simp)
          try with_reducible rfl
        try simp only [Act.put, List.getElem_toArray, List.getElem_cons_succ, List.getElem_cons_zero, List.setIfInBounds_toArray, List.set_cons_zero, List.set_cons_succ]
        refine Go.wpAnyH_take (fuel := 26) (i := 18) (oi := _) (v := ?_) rfl (by kernel_rfl) (by kernel_rfl) (by kernel_rfl) (fun _ _ _ h => h) (Or.inl ⟨by rfl, ?_⟩) (by first | exact hHeld | assumption) ?_
        rotate_left
        · (intro w hSw; (try dsimp only at hSw); (try unfold SN at hSw); go_simp)
          try with_reducible rfl
        try simp only [Act.put, List.getElem_toArray, List.getElem_cons_succ, List.getElem_cons_zero, List.setIfInBounds_toArray, List.set_cons_zero, List.set_cons_succ]
        refine Go.wpAnyH_ready (fuel := 25) (rs := [19]) (by kernel_rfl) (by simp) ?_
        refine Go.AllReadyH.cons (o := _) rfl (fun K hK => ?_) Go.AllReadyH.nil
        have HKX := Lib.hid hK
        clear hK
        go_simp
        go_at_call 48
        refine (KT.out _).mono ?_
        rintro e w8 ⟨rfl, hb8⟩
        have HB8 := Lib.hid (HB7.out.trans (hb8.mono HB7.out.size))
        clear hb8
        have k2s := HCL.out _ HB8.out
        refine HKX.out.out _ _ k2s (fun hHeld => ?_)
        clear HKX
        try simp only [Act.put, List.getElem_toArray, List.getElem_cons_succ, List.getElem_cons_zero, List.setIfInBounds_toArray, List.set_cons_zero, List.set_cons_succ]
        refine Go.wpAnyH_take (fuel := 24) (i := 20) (oi := _) (v := ?_) rfl (by kernel_rfl) (by kernel_rfl) (by kernel_rfl) (fun _ _ _ h => h) (Or.inl ⟨by rfl, ?_⟩) (by first | exact hHeld | assumption) ?_
        rotate_left
        · (intro w hSw; (try dsimp only at hSw); (try unfold SN at hSw); go_simp)
          try with_reducible rfl
        try simp only [Act.put, List.getElem_toArray, List.getElem_cons_succ, List.getElem_cons_zero, List.setIfInBounds_toArray, List.set_cons_zero, List.set_cons_succ]
        refine Go.wpAnyH_take (fuel := 23) (i := 21) (oi := _) (v := ?_) rfl (by kernel_rfl) (by kernel_rfl) (by kernel_rfl) (fun _ _ _ h => h) (Or.inl ⟨by rfl, ?_⟩) (by first | exact hHeld | assumption) ?_
        rotate_left
        · (intro w hSw; (try dsimp only at hSw); (try unfold SN at hSw); go_simp)
          try with_reducible rfl
        try simp only [Act.put, List.getElem_toArray, List.getElem_cons_succ, List.getElem_cons_zero, List.setIfInBounds_toArray, List.set_cons_zero, List.set_cons_succ]
        refine Go.wpAnyH_take (fuel := 22) (i := 22) (oi := _) (v := ?_) rfl (by kernel_rfl) (by kernel_rfl) (by kernel_rfl) (fun _ _ _ h => h) (Or.inl ⟨by rfl, ?_⟩) (by first | exact hHeld | assumption) ?_
        rotate_left
        · (intro w hSw; (try dsimp only at hSw); (try unfold SN at hSw); go_simp)
          try with_reducible rfl
        try simp only [Act.put, List.getElem_toArray, List.getElem_cons_succ, List.getElem_cons_zero, List.setIfInBounds_toArray, List.set_cons_zero, List.set_cons_succ]
        refine Go.wpAnyH_take (fuel := 21) (i := 23) (oi := _) (v := ?_) rfl (by kernel_rfl) (by kernel_rfl) (by kernel_rfl) (fun _ _ _ h => h) (Or.inl ⟨by rfl, ?_⟩) (by first | exact hHeld | assumption) ?_
        rotate_left
        · (intro w hSw; (try dsimp only at hSw); (try unfold SN at hSw); go_simp)
          try with_reducible rfl
        try simp only [Act.put, List.getElem_toArray, List.getElem_cons_succ, List.getElem_cons_zero, List.setIfInBounds_toArray, List.set_cons_zero, List.set_cons_succ]
        refine Go.wpAnyH_take (fuel := 20) (i := 24) (oi := _) (v := ?_) rfl (by kernel_rfl) (by kernel_rfl) (by kernel_rfl) (fun _ _ _ h => h) (Or.inl ⟨by rfl, ?_⟩) (by first | exact hHeld | assumption) ?_
        rotate_left
        · (intro w hSw; (try dsimp only at hSw); (try unfold SN at hSw); go_simp)
          try with_reducible rfl
        try simp only [Act.put, List.getElem_toArray, List.getElem_cons_succ, List.getElem_cons_zero, List.setIfInBounds_toArray, List.set_cons_zero, List.set_cons_succ]
        refine Go.wpAnyH_take (fuel := 19) (i := 25) (oi := _) (v := ?_) rfl (by kernel_rfl) (by kernel_rfl) (by kernel_rfl) (fun _ _ _ h => h) (Or.inl ⟨by rfl, ?_⟩) (by first | exact hHeld | assumption) ?_
        rotate_left
        · (intro w hSw; (try dsimp only at hSw); (try unfold SN at hSw); go_simp)
          try with_reducible rfl
        try simp only [Act.put, List.getElem_toArray, List.getElem_cons_succ, List.getElem_cons_zero, List.setIfInBounds_toArray, List.set_cons_zero, List.set_cons_succ]
        refine Go.wpAnyH_take (fuel := 18) (i := 26) (oi := _) (v := ?_) rfl (by kernel_rfl) (by kernel_rfl) (by kernel_rfl) (fun _ _ _ h => h) (Or.inl ⟨by rfl, ?_⟩) (by first | exact hHeld | assumption) ?_
        rotate_left
        · (intro w hSw; (try dsimp only at hSw); (try unfold SN at hSw); go_simp)
          try with_reducible rfl
        try simp only [Act.put, List.getElem_toArray, List.getElem_cons_succ, List.getElem_cons_zero, List.setIfInBounds_toArray, List.set_cons_zero, List.set_cons_succ]
        refine Go.wpAnyH_take (fuel := 17) (i := 27) (oi := _) (v := ?_) rfl (by kernel_rfl) (by kernel_rfl) (by kernel_rfl) (fun _ _ _ h => h) (Or.inl ⟨by rfl, ?_⟩) (by first | exact hHeld | assumption) ?_
        rotate_left
        · (intro w hSw; (try dsimp only at hSw); (try unfold SN at hSw); go_simp)
          try with_reducible rfl
        try simp only [Act.put, List.getElem_toArray, List.getElem_cons_succ, List.getElem_cons_zero, List.setIfInBounds_toArray, List.set_cons_zero, List.set_cons_succ]
        refine Go.wpAnyH_take (fuel := 16) (i := 28) (oi := _) (v := ?_) rfl (by kernel_rfl) (by kernel_rfl) (by kernel_rfl) (fun _ _ _ h => h) (Or.inl ⟨by rfl, ?_⟩) (by first | exact hHeld | assumption) ?_
        rotate_left
        · (intro w hSw; (try dsimp only at hSw); (try unfold SN at hSw); go_simp)
          try with_reducible rfl
        try simp only [Act.put, List.getElem_toArray, List.getElem_cons_succ, List.getElem_cons_zero, List.setIfInBounds_toArray, List.set_cons_zero, List.set_cons_succ]
        refine Go.wpAnyH_ready (fuel := 15) (rs := [29]) (by kernel_rfl) (by simp) ?_
        refine Go.AllReadyH.cons (o := _) rfl (fun K hK => ?_) Go.AllReadyH.nil
        have HKX := Lib.hid hK
        clear hK
        go_simp
        go_at_call 21
        refine (one_anyA _).mono ?_
        rintro e w9 ⟨rfl, hb9⟩
        have HB9 := Lib.hid (HB8.out.trans (hb9.mono HB8.out.size))
        clear hb9
        have k3s := HCL.out _ HB9.out
        refine HKX.out.out _ _ k3s (fun hHeld => ?_)
        clear HKX
        try simp only [Act.put, List.getElem_toArray, List.getElem_cons_succ, List.getElem_cons_zero, List.setIfInBounds_toArray, List.set_cons_zero, List.set_cons_succ]
        refine Go.wpAnyH_take (fuel := 14) (i := 30) (oi := _) (v := ?_) rfl (by kernel_rfl) (by kernel_rfl) (by kernel_rfl) (fun _ _ _ h => h) (Or.inl ⟨by rfl, ?_⟩) (by first | exact hHeld | assumption) ?_
        rotate_left
        · (intro w hSw; (try dsimp only at hSw); (try unfold SN at hSw); go_simp)
          try with_reducible rfl
        try simp only [Act.put, List.getElem_toArray, List.getElem_cons_succ, List.getElem_cons_zero, List.setIfInBounds_toArray, List.set_cons_zero, List.set_cons_succ]
        refine Go.wpAnyH_take (fuel := 13) (i := 31) (oi := _) (v := ?_) rfl (by kernel_rfl) (by kernel_rfl) (by kernel_rfl) (fun _ _ _ h => h) (Or.inl ⟨by rfl, ?_⟩) (by first | exact hHeld | assumption) ?_
        rotate_left
        · (intro w hSw; (try dsimp only at hSw); (try unfold SN at hSw); go_simp)
          try with_reducible rfl
        try simp only [Act.put, List.getElem_toArray, List.getElem_cons_succ, List.getElem_cons_zero, List.setIfInBounds_toArray, List.set_cons_zero, List.set_cons_succ]
        refine Go.wpAnyH_take (fuel := 12) (i := 32) (oi := _) (v := ?_) rfl (by kernel_rfl) (by kernel_rfl) (by kernel_rfl) (fun _ _ _ h => h) (Or.inl ⟨by rfl, ?_⟩) (by first | exact hHeld | assumption) ?_
        rotate_left
        · (intro w hSw; (try dsimp only at hSw); (try unfold SN at hSw); go_simp)
          try with_reducible rfl
        try simp only [Act.put, List.getElem_toArray, List.getElem_cons_succ, List.getElem_cons_zero, List.setIfInBounds_toArray, List.set_cons_zero, List.set_cons_succ]
        refine Go.wpAnyH_take (fuel := 11) (i := 33) (oi := _) (v := ?_) rfl (by kernel_rfl) (by kernel_rfl) (by kernel_rfl) (fun _ _ _ h => h) (Or.inl ⟨by rfl, ?_⟩) (by first | exact hHeld | assumption) ?_
        rotate_left
        · (intro w hSw; (try dsimp only at hSw); (try unfold SN at hSw); go_simp)
          try with_reducible rfl
        try simp only [Act.put, List.getElem_toArray, List.getElem_cons_succ, List.getElem_cons_zero, List.setIfInBounds_toArray, List.set_cons_zero, List.set_cons_succ]
        refine Go.wpAnyH_take (fuel := 10) (i := 34) (oi := _) (v := ?_) rfl (by kernel_rfl) (by kernel_rfl) (by kernel_rfl) (fun _ _ _ h => h) (Or.inl ⟨by rfl, ?_⟩) (by first | exact hHeld | assumption) ?_
        rotate_left
        · (intro w hSw; (try dsimp only at hSw); (try unfold SN at hSw); go_simp)
          try with_reducible rfl
        try simp only [Act.put, List.getElem_toArray, List.getElem_cons_succ, List.getElem_cons_zero, List.setIfInBounds_toArray, List.set_cons_zero, List.set_cons_succ]
        refine Go.wpAnyH_take (fuel := 9) (i := 35) (oi := _) (v := ?_) rfl (by kernel_rfl) (by kernel_rfl) (by kernel_rfl) (fun _ _ _ h => h) (Or.inl ⟨by rfl, ?_⟩) (by first | exact hHeld | assumption) ?_
        rotate_left
        · (intro w hSw; (try dsimp only at hSw); (try unfold SN at hSw); go_simp)
          try with_reducible rfl
        try simp only [Act.put, List.getElem_toArray, List.getElem_cons_succ, List.getElem_cons_zero, List.setIfInBounds_toArray, List.set_cons_zero, List.set_cons_succ]
        refine Go.wpAnyH_take (fuel := 8) (i := 36) (oi := _) (v := ?_) rfl (by kernel_rfl) (by kernel_rfl) (by kernel_rfl) (fun _ _ _ h => h) (Or.inl ⟨by rfl, ?_⟩) (by first | exact hHeld | assumption) ?_
        rotate_left
        · (intro w hSw; (try dsimp only at hSw); (try unfold SN at hSw); go_simp)
          try with_reducible rfl
        try simp only [Act.put, List.getElem_toArray, List.getElem_cons_succ, List.getElem_cons_zero, List.setIfInBounds_toArray, List.set_cons_zero, List.set_cons_succ]
        refine Go.wpAnyH_take (fuel := 7) (i := 37) (oi := _) (v := ?_) rfl (by kernel_rfl) (by kernel_rfl) (by kernel_rfl) (fun _ _ _ h => h) (Or.inl ⟨by rfl, ?_⟩) (by first | exact hHeld | assumption) ?_
        rotate_left
        · (intro w hSw; (try dsimp only at hSw); (try unfold SN at hSw); go_simp)
          try with_reducible rfl
        try simp only [Act.put, List.getElem_toArray, List.getElem_cons_succ, List.getElem_cons_zero, List.setIfInBounds_toArray, List.set_cons_zero, List.set_cons_succ]
        refine Go.wpAnyH_take (fuel := 6) (i := 38) (oi := _) (v := ?_) rfl (by kernel_rfl) (by kernel_rfl) (by kernel_rfl) (fun _ _ _ h => h) (Or.inl ⟨by rfl, ?_⟩) (by first | exact hHeld | assumption) ?_
        rotate_left
        · (intro w hSw; (try dsimp only at hSw); (try unfold SN at hSw); go_simp)
          try with_reducible rfl
        try simp only [Act.put, List.getElem_toArray, List.getElem_cons_succ, List.getElem_cons_zero, List.setIfInBounds_toArray, List.set_cons_zero, List.set_cons_succ]
        refine Go.wpAnyH_take (fuel := 5) (i := 39) (oi := _) (v := ?_) rfl (by kernel_rfl) (by kernel_rfl) (by kernel_rfl) (fun _ _ _ h => h) (Or.inl ⟨by rfl, ?_⟩) (by first | exact hHeld | assumption) ?_
        rotate_left
        · (intro w hSw; (try dsimp only at hSw); (try unfold SN at hSw); go_simp)
          try with_reducible rfl
        try simp only [Act.put, List.getElem_toArray, List.getElem_cons_succ, List.getElem_cons_zero, List.setIfInBounds_toArray, List.set_cons_zero, List.set_cons_succ]
        refine Go.wpAnyH_take (fuel := 4) (i := 40) (oi := _) (v := ?_) rfl (by kernel_rfl) (by kernel_rfl) (by kernel_rfl) (fun _ _ _ h => h) (Or.inl ⟨by rfl, ?_⟩) (by first | exact hHeld | assumption) ?_
        rotate_left
        · (intro w hSw; (try dsimp only at hSw); (try unfold SN at hSw); go_simp)
          try with_reducible rfl
        try simp only [Act.put, List.getElem_toArray, List.getElem_cons_succ, List.getElem_cons_zero, List.setIfInBounds_toArray, List.set_cons_zero, List.set_cons_succ]
        refine Go.wpAnyH_take (fuel := 3) (i := 41) (oi := _) (v := ?_) rfl (by kernel_rfl) (by kernel_rfl) (by kernel_rfl) (fun _ _ _ h => h) (Or.inl ⟨by rfl, ?_⟩) (by first | exact hHeld | assumption) ?_
        rotate_left
        · (intro w hSw; (try dsimp only at hSw); (try unfold SN at hSw); go_simp)
          try with_reducible rfl
        try simp only [Act.put, List.getElem_toArray, List.getElem_cons_succ, List.getElem_cons_zero, List.setIfInBounds_toArray, List.set_cons_zero, List.set_cons_succ]
        refine Go.wpAnyH_take (fuel := 2) (i := 42) (oi := _) (v := ?_) rfl (by kernel_rfl) (by kernel_rfl) (by kernel_rfl) (fun _ _ _ h => h) (Or.inl ⟨by rfl, ?_⟩) (by first | exact hHeld | assumption) ?_
        rotate_left
        · (intro w hSw; (try dsimp only at hSw); (try unfold SN at hSw); go_simp)
          try with_reducible rfl
        try simp only [Act.put, List.getElem_toArray, List.getElem_cons_succ, List.getElem_cons_zero, List.setIfInBounds_toArray, List.set_cons_zero, List.set_cons_succ]
        refine Go.wpAnyH_take (fuel := 1) (i := 43) (oi := _) (v := ?_) rfl (by kernel_rfl) (by kernel_rfl) (by kernel_rfl) (fun _ _ _ h => h) (Or.inl ⟨by rfl, ?_⟩) (by first | exact hHeld | assumption) ?_
        rotate_left
        · (intro w hSw; (try dsimp only at hSw); (try unfold SN at hSw); go_simp)
          try with_reducible rfl
        try simp only [Act.put, List.getElem_toArray, List.getElem_cons_succ, List.getElem_cons_zero, List.setIfInBounds_toArray, List.set_cons_zero, List.set_cons_succ]
        refine Go.wpAnyH_take (fuel := 0) (i := 44) (oi := _) (v := ?_) rfl (by kernel_rfl) (by kernel_rfl) (by kernel_rfl) (fun _ _ _ h => h) (Or.inl ⟨by rfl, ?_⟩) (by first | exact hHeld | assumption) ?_
        rotate_left
        · (intro w hSw; (try dsimp only at hSw); (try unfold SN at hSw); go_simp)
          try with_reducible rfl
        try simp only [Act.put, List.getElem_toArray, List.getElem_cons_succ, List.getElem_cons_zero, List.setIfInBounds_toArray, List.set_cons_zero, List.set_cons_succ]
        refine Go.wpAnyH_done (by kernel_rfl) ?_ _
        have HFIN := Lib.hid (HB6.out.trans (HB9.out.mono HB6.out.size))
        clear HCL KW KT s0 k1s k2s k3s HB9 HB7 HB8 HB6 p0 p1 p2 p3 p4 p5 o0 o1 m0 m1 HSH
        go_wp2
        go_ret
        exact ⟨rfl, HFIN.out⟩
      · have hqb : (q == 1) = false := by rw [beq_eq_false_iff_ne]; exact hq1
        refine Go.wp_region_held_drew (S := (fun w' => w'.cell? ⟨XN, 0, none⟩ = some (.int .i64 l.length) ∧ w'.cell? ⟨XN, 1, none⟩ = some (.slice A4 (allM W H l l.length).length c4) ∧ w'.cell? ⟨XA, 0, none⟩ = some (.int .i64 4) ∧ w'.cell? ⟨XA, 1, none⟩ = some (.int .i64 1) ∧ w'.cell? ⟨XA, 2, none⟩ = some (.int .i64 q) ∧ w'.cell? ⟨XA, 3, none⟩ = some (.slice A1 r.path.length c1) ∧ w'.cell? ⟨XA, 4, none⟩ = some (.int .i64 co) ∧ w'.cell? ⟨S6, g.F.tt, none⟩ = some (.int .i64 mt))) (by kernel_rfl) s0 (fun hHeld => ?_)
        refine Go.wpAnyH_take (fuel := 44) (i := 0) (oi := _) (v := ?_) rfl (by kernel_rfl) (by kernel_rfl) (by kernel_rfl) (fun _ _ _ h => h) (Or.inl ⟨by rfl, ?_⟩) (by first | exact hHeld | assumption) ?_
        rotate_left
        · (intro w hSw; (try dsimp only at hSw); (try unfold SN at hSw); go_simp)
          try with_reducible rfl
        try simp only [Act.put, List.getElem_toArray, List.getElem_cons_succ, List.getElem_cons_zero, List.setIfInBounds_toArray, List.set_cons_zero, List.set_cons_succ]
        refine Go.wpAnyH_take (fuel := 43) (i := 1) (oi := _) (v := ?_) rfl (by kernel_rfl) (by kernel_rfl) (by kernel_rfl) (fun _ _ _ h => h) (Or.inl ⟨by rfl, ?_⟩) (by first | exact hHeld | assumption) ?_
        rotate_left
        · (intro w hSw; (try dsimp only at hSw); (try unfold SN at hSw); go_simp)
          try with_reducible rfl
        try simp only [Act.put, List.getElem_toArray, List.getElem_cons_succ, List.getElem_cons_zero, List.setIfInBounds_toArray, List.set_cons_zero, List.set_cons_succ]
        refine Go.wpAnyH_take (fuel := 42) (i := 2) (oi := _) (v := ?_) rfl (by kernel_rfl) (by kernel_rfl) (by kernel_rfl) (fun _ _ _ h => h) (Or.inl ⟨by rfl, ?_⟩) (by first | exact hHeld | assumption) ?_
        rotate_left
        · (intro w hSw; (try dsimp only at hSw); (try unfold SN at hSw); go_simp)
          try with_reducible rfl
        try simp only [Act.put, List.getElem_toArray, List.getElem_cons_succ, List.getElem_cons_zero, List.setIfInBounds_toArray, List.set_cons_zero, List.set_cons_succ]
        refine Go.wpAnyH_take (fuel := 41) (i := 3) (oi := _) (v := ?_) rfl (by kernel_rfl) (by kernel_rfl) (by kernel_rfl) (fun _ _ _ h => h) (Or.inl ⟨by rfl, ?_⟩) (by first | exact hHeld | assumption) ?_
        rotate_left
        · (intro w hSw; (try dsimp only at hSw); (try unfold SN at hSw); go_simp)
          try with_reducible rfl
        try simp only [Act.put, List.getElem_toArray, List.getElem_cons_succ, List.getElem_cons_zero, List.setIfInBounds_toArray, List.set_cons_zero, List.set_cons_succ]
        refine Go.wpAnyH_take (fuel := 40) (i := 4) (oi := _) (v := ?_) rfl (by kernel_rfl) (by kernel_rfl) (by kernel_rfl) (fun _ _ _ h => h) (Or.inl ⟨by rfl, ?_⟩) (by first | exact hHeld | assumption) ?_
        rotate_left
        · (intro w hSw; (try dsimp only at hSw); (try unfold SN at hSw); go_simp)
          try with_reducible rfl
        try simp only [Act.put, List.getElem_toArray, List.getElem_cons_succ, List.getElem_cons_zero, List.setIfInBounds_toArray, List.set_cons_zero, List.set_cons_succ]
        refine Go.wpAnyH_take (fuel := 39) (i := 5) (oi := _) (v := ?_) rfl (by kernel_rfl) (by kernel_rfl) (by kernel_rfl) (fun _ _ _ h => h) (Or.inl ⟨by rfl, ?_⟩) (by first | exact hHeld | assumption) ?_
        rotate_left
        · (intro w hSw; (try dsimp only at hSw); (try unfold SN at hSw); go_simp)
          try with_reducible rfl
        try simp only [Act.put, List.getElem_toArray, List.getElem_cons_succ, List.getElem_cons_zero, List.setIfInBounds_toArray, List.set_cons_zero, List.set_cons_succ]
        refine Go.wpAnyH_ready (fuel := 38) (rs := [6]) (by kernel_rfl) (by simp) ?_
        refine Go.AllReadyH.cons (o := _) rfl (fun K hK => ?_) Go.AllReadyH.nil
        have HKX := Lib.hid hK
        clear hK
        go_simp
        go_at_call 47
        refine (KW.out _ (Below.refl _ _).drew).mono ?_
        rintro e w7 ⟨rfl, hb7⟩
        have HB7 := Lib.hid ((Below.refl w6.heap.size w6).drew.trans (hb7.mono (Nat.le_refl _)))
        clear hb7
        have k1s := HCL.out _ HB7.out
        refine HKX.out.out _ _ k1s (fun hHeld => ?_)
        clear HKX
        try simp only [Act.put, List.getElem_toArray, List.getElem_cons_succ, List.getElem_cons_zero, List.setIfInBounds_toArray, List.set_cons_zero, List.set_cons_succ]
        refine Go.wpAnyH_take (fuel := 37) (i := 7) (oi := _) (v := ?_) rfl (by kernel_rfl) (by kernel_rfl) (by kernel_rfl) (fun _ _ _ h => h) (Or.inl ⟨by rfl, ?_⟩) (by first | exact hHeld | assumption) ?_
        rotate_left
        · (intro w hSw; (try dsimp only at hSw); (try unfold SN at hSw); go_simp)
          try with_reducible rfl
        try simp only [Act.put, List.getElem_toArray, List.getElem_cons_succ, List.getElem_cons_zero, List.setIfInBounds_toArray, List.set_cons_zero, List.set_cons_succ]
        refine Go.wpAnyH_take (fuel := 36) (i := 8) (oi := _) (v := ?_) rfl (by kernel_rfl) (by kernel_rfl) (by kernel_rfl) (fun _ _ _ h => h) (Or.inl ⟨by rfl, ?_⟩) (by first | exact hHeld | assumption) ?_
        rotate_left
        · (intro w hSw; (try dsimp only at hSw); (try unfold SN at hSw); go_simp)
          try with_reducible rfl
        try simp only [Act.put, List.getElem_toArray, List.getElem_cons_succ, List.getElem_cons_zero, List.setIfInBounds_toArray, List.set_cons_zero, List.set_cons_succ]
        refine Go.wpAnyH_take (fuel := 35) (i := 9) (oi := _) (v := ?_) rfl (by kernel_rfl) (by kernel_rfl) (by kernel_rfl) (fun _ _ _ h => h) (Or.inl ⟨by rfl, ?_⟩) (by first | exact hHeld | assumption) ?_
        rotate_left
        · (intro w hSw; (try dsimp only at hSw); (try unfold SN at hSw); go_simp)
          try with_reducible rfl
        try simp only [Act.put, List.getElem_toArray, List.getElem_cons_succ, List.getElem_cons_zero, List.setIfInBounds_toArray, List.set_cons_zero, List.set_cons_succ]
        refine Go.wpAnyH_take (fuel := 34) (i := 10) (oi := _) (v := ?_) rfl (by kernel_rfl) (by kernel_rfl) (by kernel_rfl) (fun _ _ _ h => h) (Or.inl ⟨by rfl, ?_⟩) (by first | exact hHeld | assumption) ?_
        rotate_left
        · (intro w hSw; (try dsimp only at hSw); (try unfold SN at hSw); go_simp)
          try with_reducible rfl
        try simp only [Act.put, List.getElem_toArray, List.getElem_cons_succ, List.getElem_cons_zero, List.setIfInBounds_toArray, List.set_cons_zero, List.set_cons_succ]
        refine Go.wpAnyH_take (fuel := 33) (i := 11) (oi := _) (v := ?_) rfl (by kernel_rfl) (by kernel_rfl) (by kernel_rfl) (fun _ _ _ h => h) (Or.inl ⟨by rfl, ?_⟩) (by first | exact hHeld | assumption) ?_
        rotate_left
        · (intro w hSw; (try dsimp only at hSw); (try unfold SN at hSw); go_simp)
          try with_reducible rfl
        try simp only [Act.put, List.getElem_toArray, List.getElem_cons_succ, List.getElem_cons_zero, List.setIfInBounds_toArray, List.set_cons_zero, List.set_cons_succ]
        refine Go.wpAnyH_take (fuel := 32) (i := 12) (oi := _) (v := ?_) rfl (by kernel_rfl) (by kernel_rfl) (by kernel_rfl) (fun _ _ _ h => h) (Or.inl ⟨by rfl, ?_⟩) (by first | exact hHeld | assumption) ?_
        rotate_left
        · (intro w hSw; (try dsimp only at hSw); (try unfold SN at hSw); go_simp)
          try with_reducible rfl
        try simp only [Act.put, List.getElem_toArray, List.getElem_cons_succ, List.getElem_cons_zero, List.setIfInBounds_toArray, List.set_cons_zero, List.set_cons_succ]
        refine Go.wpAnyH_take (fuel := 31) (i := 13) (oi := _) (v := ?_) rfl (by kernel_rfl) (by kernel_rfl) (by kernel_rfl) (fun _ _ _ h => h) (Or.inl ⟨by rfl, ?_⟩) (by first | exact hHeld | assumption) ?_
        rotate_left
        · (intro w hSw; (try dsimp only at hSw); (try unfold SN at hSw); go_simp)
          try with_reducible rfl
        try simp only [Act.put, List.getElem_toArray, List.getElem_cons_succ, List.getElem_cons_zero, List.setIfInBounds_toArray, List.set_cons_zero, List.set_cons_succ]
        refine Go.wpAnyH_take (fuel := 30) (i := 14) (oi := _) (v := ?_) rfl (by kernel_rfl) (by kernel_rfl) (by kernel_rfl) (fun _ _ _ h => h) (Or.inl ⟨by rfl, ?_⟩) (by first | exact hHeld | assumption) ?_
        rotate_left
        · (intro w hSw; (try dsimp only at hSw); (try unfold SN at hSw); go_simp)
          try with_reducible rfl
        try simp only [Act.put, List.getElem_toArray, List.getElem_cons_succ, List.getElem_cons_zero, List.setIfInBounds_toArray, List.set_cons_zero, List.set_cons_succ]
        refine Go.wpAnyH_take (fuel := 29) (i := 15) (oi := _) (v := ?_) rfl (by kernel_rfl) (by kernel_rfl) (by kernel_rfl) (fun _ _ _ h => h) (Or.inl ⟨by rfl, ?_⟩) (by first | exact hHeld | assumption) ?_
        rotate_left
        · (intro w hSw; (try dsimp only at hSw); (try unfold SN at hSw); go_simp)
          try with_reducible rfl
        try simp only [Act.put, List.getElem_toArray, List.getElem_cons_succ, List.getElem_cons_zero, List.setIfInBounds_toArray, List.set_cons_zero, List.set_cons_succ]
        refine Go.wpAnyH_take (fuel := 28) (i := 16) (oi := _) (v := ?_) rfl (by kernel_rfl) (by kernel_rfl) (by kernel_rfl) (fun _ _ _ h => h) (Or.inl ⟨by rfl, ?_⟩) (by first | exact hHeld | assumption) ?_
        rotate_left
        · (intro w hSw; (try dsimp only at hSw); (try unfold SN at hSw); go_simp)
          try with_reducible rfl
        try simp only [Act.put, List.getElem_toArray, List.getElem_cons_succ, List.getElem_cons_zero, List.setIfInBounds_toArray, List.set_cons_zero, List.set_cons_succ]
        refine Go.wpAnyH_take (fuel := 27) (i := 17) (oi := _) (v := ?_) rfl (by kernel_rfl) (by kernel_rfl) (by kernel_rfl) (fun _ _ _ h => h) (Or.inl ⟨by rfl, ?_⟩) (by first | exact hHeld | assumption) ?_
        rotate_left
        · (intro w hSw; (try dsimp only at hSw); (try unfold SN at hSw); go_simp)
          try with_reducible rfl
        try simp only [Act.put, List.getElem_toArray, List.getElem_cons_succ, List.getElem_cons_zero, List.setIfInBounds_toArray, List.set_cons_zero, List.set_cons_succ]
        refine Go.wpAnyH_take (fuel := 26) (i := 18) (oi := _) (v := ?_) rfl (by kernel_rfl) (by kernel_rfl) (by kernel_rfl) (fun _ _ _ h => h) (Or.inl ⟨by rfl, ?_⟩) (by first | exact hHeld | assumption) ?_
        rotate_left
        · (intro w hSw; (try dsimp only at hSw); (try unfold SN at hSw); go_simp)
          try with_reducible rfl
        try simp only [Act.put, List.getElem_toArray, List.getElem_cons_succ, List.getElem_cons_zero, List.setIfInBounds_toArray, List.set_cons_zero, List.set_cons_succ]
        refine Go.wpAnyH_ready (fuel := 25) (rs := [19]) (by kernel_rfl) (by simp) ?_
        refine Go.AllReadyH.cons (o := _) rfl (fun K hK => ?_) Go.AllReadyH.nil
        have HKX := Lib.hid hK
        clear hK
        go_simp
        go_at_call 48
        refine (KT.out _).mono ?_
        rintro e w8 ⟨rfl, hb8⟩
        have HB8 := Lib.hid (HB7.out.trans (hb8.mono HB7.out.size))
        clear hb8
        have k2s := HCL.out _ HB8.out
        refine HKX.out.out _ _ k2s (fun hHeld => ?_)
        clear HKX
        try simp only [Act.put, List.getElem_toArray, List.getElem_cons_succ, List.getElem_cons_zero, List.setIfInBounds_toArray, List.set_cons_zero, List.set_cons_succ]
        refine Go.wpAnyH_take (fuel := 24) (i := 20) (oi := _) (v := ?_) rfl (by kernel_rfl) (by kernel_rfl) (by kernel_rfl) (fun _ _ _ h => h) (Or.inl ⟨by rfl, ?_⟩) (by first | exact hHeld | assumption) ?_
        rotate_left
        · (intro w hSw; (try dsimp only at hSw); (try unfold SN at hSw); go_simp)
          try with_reducible rfl
        try simp only [Act.put, List.getElem_toArray, List.getElem_cons_succ, List.getElem_cons_zero, List.setIfInBounds_toArray, List.set_cons_zero, List.set_cons_succ]
        refine Go.wpAnyH_take (fuel := 23) (i := 21) (oi := _) (v := ?_) rfl (by kernel_rfl) (by kernel_rfl) (by kernel_rfl) (fun _ _ _ h => h) (Or.inl ⟨by rfl, ?_⟩) (by first | exact hHeld | assumption) ?_
        rotate_left
        · (intro w hSw; (try dsimp only at hSw); (try unfold SN at hSw); go_simp)
          try with_reducible rfl
        try simp only [Act.put, List.getElem_toArray, List.getElem_cons_succ, List.getElem_cons_zero, List.setIfInBounds_toArray, List.set_cons_zero, List.set_cons_succ]
        refine Go.wpAnyH_take (fuel := 22) (i := 22) (oi := _) (v := ?_) rfl (by kernel_rfl) (by kernel_rfl) (by kernel_rfl) (fun _ _ _ h => h) (Or.inl ⟨by rfl, ?_⟩) (by first | exact hHeld | assumption) ?_
        rotate_left
        · (intro w hSw; (try dsimp only at hSw); (try unfold SN at hSw); go_simp)
          try with_reducible rfl
        try simp only [Act.put, List.getElem_toArray, List.getElem_cons_succ, List.getElem_cons_zero, List.setIfInBounds_toArray, List.set_cons_zero, List.set_cons_succ]
        refine Go.wpAnyH_take (fuel := 21) (i := 23) (oi := _) (v := ?_) rfl (by kernel_rfl) (by kernel_rfl) (by kernel_rfl) (fun _ _ _ h => h) (Or.inl ⟨by rfl, ?_⟩) (by first | exact hHeld | assumption) ?_
        rotate_left
        · (intro w hSw; (try dsimp only at hSw); (try unfold SN at hSw); go_simp)
          try with_reducible rfl
        try simp only [Act.put, List.getElem_toArray, List.getElem_cons_succ, List.getElem_cons_zero, List.setIfInBounds_toArray, List.set_cons_zero, List.set_cons_succ]
        refine Go.wpAnyH_take (fuel := 20) (i := 24) (oi := _) (v := ?_) rfl (by kernel_rfl) (by kernel_rfl) (by kernel_rfl) (fun _ _ _ h => h) (Or.inl ⟨by rfl, ?_⟩) (by first | exact hHeld | assumption) ?_
        rotate_left
        · (intro w hSw; (try dsimp only at hSw); (try unfold SN at hSw); go_simp)
          try with_reducible rfl
        try simp only [Act.put, List.getElem_toArray, List.getElem_cons_succ, List.getElem_cons_zero, List.setIfInBounds_toArray, List.set_cons_zero, List.set_cons_succ]
        refine Go.wpAnyH_take (fuel := 19) (i := 25) (oi := _) (v := ?_) rfl (by kernel_rfl) (by kernel_rfl) (by kernel_rfl) (fun _ _ _ h => h) (Or.inl ⟨by rfl, ?_⟩) (by first | exact hHeld | assumption) ?_
        rotate_left
        · (intro w hSw; (try dsimp only at hSw); (try unfold SN at hSw); go_simp)
          try with_reducible rfl
        try simp only [Act.put, List.getElem_toArray, List.getElem_cons_succ, List.getElem_cons_zero, List.setIfInBounds_toArray, List.set_cons_zero, List.set_cons_succ]
        refine Go.wpAnyH_take (fuel := 18) (i := 26) (oi := _) (v := ?_) rfl (by kernel_rfl) (by kernel_rfl) (by kernel_rfl) (fun _ _ _ h => h) (Or.inl ⟨by rfl, ?_⟩) (by first | exact hHeld | assumption) ?_
        rotate_left
        · (intro w hSw; (try dsimp only at hSw); (try unfold SN at hSw); go_simp)
          try with_reducible rfl
        try simp only [Act.put, List.getElem_toArray, List.getElem_cons_succ, List.getElem_cons_zero, List.setIfInBounds_toArray, List.set_cons_zero, List.set_cons_succ]
        refine Go.wpAnyH_take (fuel := 17) (i := 27) (oi := _) (v := ?_) rfl (by kernel_rfl) (by kernel_rfl) (by kernel_rfl) (fun _ _ _ h => h) (Or.inl ⟨by rfl, ?_⟩) (by first | exact hHeld | assumption) ?_
        rotate_left
        · (intro w hSw; (try dsimp only at hSw); (try unfold SN at hSw); go_simp)
          try with_reducible rfl
        try simp only [Act.put, List.getElem_toArray, List.getElem_cons_succ, List.getElem_cons_zero, List.setIfInBounds_toArray, List.set_cons_zero, List.set_cons_succ]
        refine Go.wpAnyH_take (fuel := 16) (i := 28) (oi := _) (v := ?_) rfl (by kernel_rfl) (by kernel_rfl) (by kernel_rfl) (fun _ _ _ h => h) (Or.inl ⟨by rfl, ?_⟩) (by first | exact hHeld | assumption) ?_
        rotate_left
        · (intro w hSw; (try dsimp only at hSw); (try unfold SN at hSw); go_simp)
          try with_reducible rfl
        try simp only [Act.put, List.getElem_toArray, List.getElem_cons_succ, List.getElem_cons_zero, List.setIfInBounds_toArray, List.set_cons_zero, List.set_cons_succ]
        refine Go.wpAnyH_ready (fuel := 15) (rs := [29]) (by kernel_rfl) (by simp) ?_
        refine Go.AllReadyH.cons (o := _) rfl (fun K hK => ?_) Go.AllReadyH.nil
        have HKX := Lib.hid hK
        clear hK
        go_simp
        go_at_call 21
        refine (one_anyA _).mono ?_
        rintro e w9 ⟨rfl, hb9⟩
        have HB9 := Lib.hid (HB8.out.trans (hb9.mono HB8.out.size))
        clear hb9
        have k3s := HCL.out _ HB9.out
        refine HKX.out.out _ _ k3s (fun hHeld => ?_)
        clear HKX
        try simp only [Act.put, List.getElem_toArray, List.getElem_cons_succ, List.getElem_cons_zero, List.setIfInBounds_toArray, List.set_cons_zero, List.set_cons_succ]
        refine Go.wpAnyH_take (fuel := 14) (i := 30) (oi := _) (v := ?_) rfl (by kernel_rfl) (by kernel_rfl) (by kernel_rfl) (fun _ _ _ h => h) (Or.inl ⟨by rfl, ?_⟩) (by first | exact hHeld | assumption) ?_
        rotate_left
        · (intro w hSw; (try dsimp only at hSw); (try unfold SN at hSw); go_simp)
          try with_reducible rfl
        try simp only [Act.put, List.getElem_toArray, List.getElem_cons_succ, List.getElem_cons_zero, List.setIfInBounds_toArray, List.set_cons_zero, List.set_cons_succ]
        refine Go.wpAnyH_take (fuel := 13) (i := 31) (oi := _) (v := ?_) rfl (by kernel_rfl) (by kernel_rfl) (by kernel_rfl) (fun _ _ _ h => h) (Or.inl ⟨by rfl, ?_⟩) (by first | exact hHeld | assumption) ?_
        rotate_left
        · (intro w hSw; (try dsimp only at hSw); (try unfold SN at hSw); go_simp)
          try with_reducible rfl
        try simp only [Act.put, List.getElem_toArray, List.getElem_cons_succ, List.getElem_cons_zero, List.setIfInBounds_toArray, List.set_cons_zero, List.set_cons_succ]
        refine Go.wpAnyH_take (fuel := 12) (i := 32) (oi := _) (v := ?_) rfl (by kernel_rfl) (by kernel_rfl) (by kernel_rfl) (fun _ _ _ h => h) (Or.inl ⟨by rfl, ?_⟩) (by first | exact hHeld | assumption) ?_
        rotate_left
        · (intro w hSw; (try dsimp only at hSw); (try unfold SN at hSw); go_simp)
          try with_reducible rfl
        try simp only [Act.put, List.getElem_toArray, List.getElem_cons_succ, List.getElem_cons_zero, List.setIfInBounds_toArray, List.set_cons_zero, List.set_cons_succ]
        refine Go.wpAnyH_take (fuel := 11) (i := 33) (oi := _) (v := undef) rfl (by kernel_rfl) (by kernel_rfl) (by kernel_rfl) (fun _ _ _ h => h) (Or.inr ⟨by rfl, rfl⟩) (by first | exact hHeld | assumption) ?_
        try simp only [Act.put, List.getElem_toArray, List.getElem_cons_succ, List.getElem_cons_zero, List.setIfInBounds_toArray, List.set_cons_zero, List.set_cons_succ]
        refine Go.wpAnyH_take (fuel := 10) (i := 34) (oi := _) (v := undef) rfl (by kernel_rfl) (by kernel_rfl) (by kernel_rfl) (fun _ _ _ h => h) (Or.inr ⟨by rfl, rfl⟩) (by first | exact hHeld | assumption) ?_
        try simp only [Act.put, List.getElem_toArray, List.getElem_cons_succ, List.getElem_cons_zero, List.setIfInBounds_toArray, List.set_cons_zero, List.set_cons_succ]
        refine Go.wpAnyH_take (fuel := 9) (i := 35) (oi := _) (v := undef) rfl (by kernel_rfl) (by kernel_rfl) (by kernel_rfl) (fun _ _ _ h => h) (Or.inr ⟨by rfl, rfl⟩) (by first | exact hHeld | assumption) ?_
        try simp only [Act.put, List.getElem_toArray, List.getElem_cons_succ, List.getElem_cons_zero, List.setIfInBounds_toArray, List.set_cons_zero, List.set_cons_succ]
        refine Go.wpAnyH_take (fuel := 8) (i := 36) (oi := _) (v := undef) rfl (by kernel_rfl) (by kernel_rfl) (by kernel_rfl) (fun _ _ _ h => h) (Or.inr ⟨by rfl, rfl⟩) (by first | exact hHeld | assumption) ?_
        try simp only [Act.put, List.getElem_toArray, List.getElem_cons_succ, List.getElem_cons_zero, List.setIfInBounds_toArray, List.set_cons_zero, List.set_cons_succ]
        refine Go.wpAnyH_take (fuel := 7) (i := 37) (oi := _) (v := undef) rfl (by kernel_rfl) (by kernel_rfl) (by kernel_rfl) (fun _ _ _ h => h) (Or.inr ⟨by rfl, rfl⟩) (by first | exact hHeld | assumption) ?_
        try simp only [Act.put, List.getElem_toArray, List.getElem_cons_succ, List.getElem_cons_zero, List.setIfInBounds_toArray, List.set_cons_zero, List.set_cons_succ]
        refine Go.wpAnyH_take (fuel := 6) (i := 38) (oi := _) (v := undef) rfl (by kernel_rfl) (by kernel_rfl) (by kernel_rfl) (fun _ _ _ h => h) (Or.inr ⟨by rfl, rfl⟩) (by first | exact hHeld | assumption) ?_
        try simp only [Act.put, List.getElem_toArray, List.getElem_cons_succ, List.getElem_cons_zero, List.setIfInBounds_toArray, List.set_cons_zero, List.set_cons_succ]
        refine Go.wpAnyH_take (fuel := 5) (i := 39) (oi := _) (v := undef) rfl (by kernel_rfl) (by kernel_rfl) (by kernel_rfl) (fun _ _ _ h => h) (Or.inr ⟨by rfl, rfl⟩) (by first | exact hHeld | assumption) ?_
        try simp only [Act.put, List.getElem_toArray, List.getElem_cons_succ, List.getElem_cons_zero, List.setIfInBounds_toArray, List.set_cons_zero, List.set_cons_succ]
        refine Go.wpAnyH_take (fuel := 4) (i := 40) (oi := _) (v := undef) rfl (by kernel_rfl) (by kernel_rfl) (by kernel_rfl) (fun _ _ _ h => h) (Or.inr ⟨by rfl, rfl⟩) (by first | exact hHeld | assumption) ?_
        try simp only [Act.put, List.getElem_toArray, List.getElem_cons_succ, List.getElem_cons_zero, List.setIfInBounds_toArray, List.set_cons_zero, List.set_cons_succ]
        refine Go.wpAnyH_take (fuel := 3) (i := 41) (oi := _) (v := undef) rfl (by kernel_rfl) (by kernel_rfl) (by kernel_rfl) (fun _ _ _ h => h) (Or.inr ⟨by rfl, rfl⟩) (by first | exact hHeld | assumption) ?_
        try simp only [Act.put, List.getElem_toArray, List.getElem_cons_succ, List.getElem_cons_zero, List.setIfInBounds_toArray, List.set_cons_zero, List.set_cons_succ]
        refine Go.wpAnyH_take (fuel := 2) (i := 42) (oi := _) (v := ?_) rfl (by kernel_rfl) (by kernel_rfl) (by kernel_rfl) (fun _ _ _ h => h) (Or.inl ⟨by rfl, ?_⟩) (by first | exact hHeld | assumption) ?_
        rotate_left
        · (intro w hSw; (try dsimp only at hSw); (try unfold SN at hSw); go_simp)
          try with_reducible rfl
        try simp only [Act.put, List.getElem_toArray, List.getElem_cons_succ, List.getElem_cons_zero, List.setIfInBounds_toArray, List.set_cons_zero, List.set_cons_succ]
        refine Go.wpAnyH_take (fuel := 1) (i := 43) (oi := _) (v := ?_) rfl (by kernel_rfl) (by kernel_rfl) (by kernel_rfl) (fun _ _ _ h => h) (Or.inl ⟨by rfl, ?_⟩) (by first | exact hHeld | assumption) ?_
        rotate_left
        · (intro w hSw; (try dsimp only at hSw); (try unfold SN at hSw); go_simp)
          try with_reducible rfl
        try simp only [Act.put, List.getElem_toArray, List.getElem_cons_succ, List.getElem_cons_zero, List.setIfInBounds_toArray, List.set_cons_zero, List.set_cons_succ]
        refine Go.wpAnyH_take (fuel := 0) (i := 44) (oi := _) (v := ?_) rfl (by kernel_rfl) (by kernel_rfl) (by kernel_rfl) (fun _ _ _ h => h) (Or.inl ⟨by rfl, ?_⟩) (by first | exact hHeld | assumption) ?_
        rotate_left
        · (intro w hSw; (try dsimp only at hSw); (try unfold SN at hSw); go_simp)
          try with_reducible rfl
        try simp only [Act.put, List.getElem_toArray, List.getElem_cons_succ, List.getElem_cons_zero, List.setIfInBounds_toArray, List.set_cons_zero, List.set_cons_succ]
        refine Go.wpAnyH_done (by kernel_rfl) ?_ _
        have HFIN := Lib.hid (HB6.out.trans (HB9.out.mono HB6.out.size))
        clear HCL KW KT s0 k1s k2s k3s HB9 HB7 HB8 HB6 p0 p1 p2 p3 p4 p5 o0 o1 m0 m1 HSH
        go_wp2
        go_ret
        exact ⟨rfl, HFIN.out⟩
    · have hpb : (p == 1) = false := by rw [beq_eq_false_iff_ne]; exact hp1
      refine Go.wp_region_held_drew (S := (fun w' => w'.cell? ⟨XN, 0, none⟩ = some (.int .i64 l.length) ∧ w'.cell? ⟨XN, 1, none⟩ = some (.slice A4 (allM W H l l.length).length c4) ∧ w'.cell? ⟨XA, 0, none⟩ = some (.int .i64 4) ∧ w'.cell? ⟨XA, 1, none⟩ = some (.int .i64 p) ∧ w'.cell? ⟨XA, 2, none⟩ = some (.int .i64 q) ∧ w'.cell? ⟨XA, 3, none⟩ = some (.slice A1 r.path.length c1) ∧ w'.cell? ⟨XA, 4, none⟩ = some (.int .i64 co) ∧ w'.cell? ⟨S6, g.F.tt, none⟩ = some (.int .i64 mt))) (by kernel_rfl) s0 (fun hHeld => ?_)
      refine Go.wpAnyH_take (fuel := 44) (i := 0) (oi := _) (v := ?_) rfl (by kernel_rfl) (by kernel_rfl) (by kernel_rfl) (fun _ _ _ h => h) (Or.inl ⟨by rfl, ?_⟩) (by first | exact hHeld | assumption) ?_
      rotate_left
      · (intro w hSw; (try dsimp only at hSw); (try unfold SN at hSw); go_simp)
        try with_reducible rfl
      try simp only [Act.put, List.getElem_toArray, List.getElem_cons_succ, List.getElem_cons_zero, List.setIfInBounds_toArray, List.set_cons_zero, List.set_cons_succ]
      refine Go.wpAnyH_take (fuel := 43) (i := 1) (oi := _) (v := ?_) rfl (by kernel_rfl) (by kernel_rfl) (by kernel_rfl) (fun _ _ _ h => h) (Or.inl ⟨by rfl, ?_⟩) (by first | exact hHeld | assumption) ?_
      rotate_left
      · (intro w hSw; (try dsimp only at hSw); (try unfold SN at hSw); go_simp)
        try with_reducible rfl
      try simp only [Act.put, List.getElem_toArray, List.getElem_cons_succ, List.getElem_cons_zero, List.setIfInBounds_toArray, List.set_cons_zero, List.set_cons_succ]
      refine Go.wpAnyH_take (fuel := 42) (i := 2) (oi := _) (v := ?_) rfl (by kernel_rfl) (by kernel_rfl) (by kernel_rfl) (fun _ _ _ h => h) (Or.inl ⟨by rfl, ?_⟩) (by first | exact hHeld | assumption) ?_
      rotate_left
      · (intro w hSw; (try dsimp only at hSw); (try unfold SN at hSw); go_simp)
        try with_reducible rfl
      try simp only [Act.put, List.getElem_toArray, List.getElem_cons_succ, List.getElem_cons_zero, List.setIfInBounds_toArray, List.set_cons_zero, List.set_cons_succ]
      refine Go.wpAnyH_take (fuel := 41) (i := 3) (oi := _) (v := ?_) rfl (by kernel_rfl) (by kernel_rfl) (by kernel_rfl) (fun _ _ _ h => h) (Or.inl ⟨by rfl, ?_⟩) (by first | exact hHeld | assumption) ?_
      rotate_left
      · (intro w hSw; (try dsimp only at hSw); (try unfold SN at hSw); go_simp)
        try with_reducible rfl
      try simp only [Act.put, List.getElem_toArray, List.getElem_cons_succ, List.getElem_cons_zero, List.setIfInBounds_toArray, List.set_cons_zero, List.set_cons_succ]
      refine Go.wpAnyH_take (fuel := 40) (i := 4) (oi := _) (v := ?_) rfl (by kernel_rfl) (by kernel_rfl) (by kernel_rfl) (fun _ _ _ h => h) (Or.inl ⟨by rfl, ?_⟩) (by first | exact hHeld | assumption) ?_
      rotate_left
      · (intro w hSw; (try dsimp only at hSw); (try unfold SN at hSw); go_simp)
        try with_reducible rfl
      try simp only [Act.put, List.getElem_toArray, List.getElem_cons_succ, List.getElem_cons_zero, List.setIfInBounds_toArray, List.set_cons_zero, List.set_cons_succ]
      refine Go.wpAnyH_take (fuel := 39) (i := 5) (oi := _) (v := ?_) rfl (by kernel_rfl) (by kernel_rfl) (by kernel_rfl) (fun _ _ _ h => h) (Or.inl ⟨by rfl, ?_⟩) (by first | exact hHeld | assumption) ?_
      rotate_left
      · (intro w hSw; (try dsimp only at hSw); (try unfold SN at hSw); go_simp)
        try with_reducible rfl
      try simp only [Act.put, List.getElem_toArray, List.getElem_cons_succ, List.getElem_cons_zero, List.setIfInBounds_toArray, List.set_cons_zero, List.set_cons_succ]
      refine Go.wpAnyH_ready (fuel := 38) (rs := [6]) (by kernel_rfl) (by simp) ?_
      refine Go.AllReadyH.cons (o := _) rfl (fun K hK => ?_) Go.AllReadyH.nil
      have HKX := Lib.hid hK
      clear hK
      go_simp
      go_at_call 47
      refine (KW.out _ (Below.refl _ _).drew).mono ?_
      rintro e w7 ⟨rfl, hb7⟩
      have HB7 := Lib.hid ((Below.refl w6.heap.size w6).drew.trans (hb7.mono (Nat.le_refl _)))
      clear hb7
      have k1s := HCL.out _ HB7.out
      refine HKX.out.out _ _ k1s (fun hHeld => ?_)
      clear HKX
      try simp only [Act.put, List.getElem_toArray, List.getElem_cons_succ, List.getElem_cons_zero, List.setIfInBounds_toArray, List.set_cons_zero, List.set_cons_succ]
      refine Go.wpAnyH_take (fuel := 37) (i := 7) (oi := _) (v := ?_) rfl (by kernel_rfl) (by kernel_rfl) (by kernel_rfl) (fun _ _ _ h => h) (Or.inl ⟨by rfl, ?_⟩) (by first | exact hHeld | assumption) ?_
      rotate_left
      · (intro w hSw; (try dsimp only at hSw); (try unfold SN at hSw); go_simp)
        try with_reducible rfl
      try simp only [Act.put, List.getElem_toArray, List.getElem_cons_succ, List.getElem_cons_zero, List.setIfInBounds_toArray, List.set_cons_zero, List.set_cons_succ]
      refine Go.wpAnyH_take (fuel := 36) (i := 8) (oi := _) (v := ?_) rfl (by kernel_rfl) (by kernel_rfl) (by kernel_rfl) (fun _ _ _ h => h) (Or.inl ⟨by rfl, ?_⟩) (by first | exact hHeld | assumption) ?_
      rotate_left
      · (intro w hSw; (try dsimp only at hSw); (try unfold SN at hSw); go_simp)
        try with_reducible rfl
      try simp only [Act.put, List.getElem_toArray, List.getElem_cons_succ, List.getElem_cons_zero, List.setIfInBounds_toArray, List.set_cons_zero, List.set_cons_succ]
      refine Go.wpAnyH_take (fuel := 35) (i := 9) (oi := _) (v := ?_) rfl (by kernel_rfl) (by kernel_rfl) (by kernel_rfl) (fun _ _ _ h => h) (Or.inl ⟨by rfl, ?_⟩) (by first | exact hHeld | assumption) ?_
      rotate_left
      · (intro w hSw; (try dsimp only at hSw); (try unfold SN at hSw); go_simp)
        try with_reducible rfl
      try simp only [Act.put, List.getElem_toArray, List.getElem_cons_succ, List.getElem_cons_zero, List.setIfInBounds_toArray, List.set_cons_zero, List.set_cons_succ]
      refine Go.wpAnyH_take (fuel := 34) (i := 10) (oi := _) (v := ?_) rfl (by kernel_rfl) (by kernel_rfl) (by kernel_rfl) (fun _ _ _ h => h) (Or.inl ⟨by rfl, ?_⟩) (by first | exact hHeld | assumption) ?_
      rotate_left
      · (intro w hSw; (try dsimp only at hSw); (try unfold SN at hSw); go_simp)
        try with_reducible rfl
      try simp only [Act.put, List.getElem_toArray, List.getElem_cons_succ, List.getElem_cons_zero, List.setIfInBounds_toArray, List.set_cons_zero, List.set_cons_succ]
      refine Go.wpAnyH_take (fuel := 33) (i := 11) (oi := _) (v := ?_) rfl (by kernel_rfl) (by kernel_rfl) (by kernel_rfl) (fun _ _ _ h => h) (Or.inl ⟨by rfl, ?_⟩) (by first | exact hHeld | assumption) ?_
      rotate_left
      · (intro w hSw; (try dsimp only at hSw); (try unfold SN at hSw); go_simp)
        try with_reducible rfl
      try simp only [Act.put, List.getElem_toArray, List.getElem_cons_succ, List.getElem_cons_zero, List.setIfInBounds_toArray, List.set_cons_zero, List.set_cons_succ]
      refine Go.wpAnyH_take (fuel := 32) (i := 12) (oi := _) (v := ?_) rfl (by kernel_rfl) (by kernel_rfl) (by kernel_rfl) (fun _ _ _ h => h) (Or.inl ⟨by rfl, ?_⟩) (by first | exact hHeld | assumption) ?_
      rotate_left
      · (intro w hSw; (try dsimp only at hSw); (try unfold SN at hSw); go_simp)
        try with_reducible rfl
      try simp only [Act.put, List.getElem_toArray, List.getElem_cons_succ, List.getElem_cons_zero, List.setIfInBounds_toArray, List.set_cons_zero, List.set_cons_succ]
      refine Go.wpAnyH_take (fuel := 31) (i := 13) (oi := _) (v := ?_) rfl (by kernel_rfl) (by kernel_rfl) (by kernel_rfl) (fun _ _ _ h => h) (Or.inl ⟨by rfl, ?_⟩) (by first | exact hHeld | assumption) ?_
      rotate_left
      · (intro w hSw; (try dsimp only at hSw); (try unfold SN at hSw); go_simp)
        try with_reducible rfl
      try simp only [Act.put, List.getElem_toArray, List.getElem_cons_succ, List.getElem_cons_zero, List.setIfInBounds_toArray, List.set_cons_zero, List.set_cons_succ]
      refine Go.wpAnyH_take (fuel := 30) (i := 14) (oi := _) (v := ?_) rfl (by kernel_rfl) (by kernel_rfl) (by kernel_rfl) (fun _ _ _ h => h) (Or.inl ⟨by rfl, ?_⟩) (by first | exact hHeld | assumption) ?_
      rotate_left
      · (intro w hSw; (try dsimp only at hSw); (try unfold SN at hSw); go_simp)
        try with_reducible rfl
      try simp only [Act.put, List.getElem_toArray, List.getElem_cons_succ, List.getElem_cons_zero, List.setIfInBounds_toArray, List.set_cons_zero, List.set_cons_succ]
      refine Go.wpAnyH_take (fuel := 29) (i := 15) (oi := _) (v := ?_) rfl (by kernel_rfl) (by kernel_rfl) (by kernel_rfl) (fun _ _ _ h => h) (Or.inl ⟨by rfl, ?_⟩) (by first | exact hHeld | assumption) ?_
      rotate_left
      · (intro w hSw; (try dsimp only at hSw); (try unfold SN at hSw); go_simp)
        try with_reducible rfl
      try simp only [Act.put, List.getElem_toArray, List.getElem_cons_succ, List.getElem_cons_zero, List.setIfInBounds_toArray, List.set_cons_zero, List.set_cons_succ]
      refine Go.wpAnyH_take (fuel := 28) (i := 16) (oi := _) (v := ?_) rfl (by kernel_rfl) (by kernel_rfl) (by kernel_rfl) (fun _ _ _ h => h) (Or.inl ⟨by rfl, ?_⟩) (by first | exact hHeld | assumption) ?_
      rotate_left
      · (intro w hSw; (try dsimp only at hSw); (try unfold SN at hSw); go_simp)
        try with_reducible rfl
      try simp only [Act.put, List.getElem_toArray, List.getElem_cons_succ, List.getElem_cons_zero, List.setIfInBounds_toArray, List.set_cons_zero, List.set_cons_succ]
      refine Go.wpAnyH_take (fuel := 27) (i := 17) (oi := _) (v := ?_) rfl (by kernel_rfl) (by kernel_rfl) (by kernel_rfl) (fun _ _ _ h => h) (Or.inl ⟨by rfl, ?_⟩) (by first | exact hHeld | assumption) ?_
      rotate_left
      · (intro w hSw; (try dsimp only at hSw); (try unfold SN at hSw); go_simp)
        try with_reducible rfl
      try simp only [Act.put, List.getElem_toArray, List.getElem_cons_succ, List.getElem_cons_zero, List.setIfInBounds_toArray, List.set_cons_zero, List.set_cons_succ]
      refine Go.wpAnyH_take (fuel := 26) (i := 18) (oi := _) (v := ?_) rfl (by kernel_rfl) (by kernel_rfl) (by kernel_rfl) (fun _ _ _ h => h) (Or.inl ⟨by rfl, ?_⟩) (by first | exact hHeld | assumption) ?_
      rotate_left
      · (intro w hSw; (try dsimp only at hSw); (try unfold SN at hSw); go_simp)
        try with_reducible rfl
      try simp only [Act.put, List.getElem_toArray, List.getElem_cons_succ, List.getElem_cons_zero, List.setIfInBounds_toArray, List.set_cons_zero, List.set_cons_succ]
      refine Go.wpAnyH_ready (fuel := 25) (rs := [19]) (by kernel_rfl) (by simp) ?_
      refine Go.AllReadyH.cons (o := _) rfl (fun K hK => ?_) Go.AllReadyH.nil
      have HKX := Lib.hid hK
      clear hK
      go_simp
      go_at_call 48
      refine (KT.out _).mono ?_
      rintro e w8 ⟨rfl, hb8⟩
      have HB8 := Lib.hid (HB7.out.trans (hb8.mono HB7.out.size))
      clear hb8
      have k2s := HCL.out _ HB8.out
      refine HKX.out.out _ _ k2s (fun hHeld => ?_)
      clear HKX
      try simp only [Act.put, List.getElem_toArray, List.getElem_cons_succ, List.getElem_cons_zero, List.setIfInBounds_toArray, List.set_cons_zero, List.set_cons_succ]
      refine Go.wpAnyH_take (fuel := 24) (i := 20) (oi := _) (v := ?_) rfl (by kernel_rfl) (by kernel_rfl) (by kernel_rfl) (fun _ _ _ h => h) (Or.inl ⟨by rfl, ?_⟩) (by first | exact hHeld | assumption) ?_
      rotate_left
      · (intro w hSw; (try dsimp only at hSw); (try unfold SN at hSw); go_simp)
        try with_reducible rfl
      try simp only [Act.put, List.getElem_toArray, List.getElem_cons_succ, List.getElem_cons_zero, List.setIfInBounds_toArray, List.set_cons_zero, List.set_cons_succ]
      refine Go.wpAnyH_take (fuel := 23) (i := 21) (oi := _) (v := ?_) rfl (by kernel_rfl) (by kernel_rfl) (by kernel_rfl) (fun _ _ _ h => h) (Or.inl ⟨by rfl, ?_⟩) (by first | exact hHeld | assumption) ?_
      rotate_left
      · (intro w hSw; (try dsimp only at hSw); (try unfold SN at hSw); go_simp)
        try with_reducible rfl
      try simp only [Act.put, List.getElem_toArray, List.getElem_cons_succ, List.getElem_cons_zero, List.setIfInBounds_toArray, List.set_cons_zero, List.set_cons_succ]
      refine Go.wpAnyH_take (fuel := 22) (i := 22) (oi := _) (v := ?_) rfl (by kernel_rfl) (by kernel_rfl) (by kernel_rfl) (fun _ _ _ h => h) (Or.inl ⟨by rfl, ?_⟩) (by first | exact hHeld | assumption) ?_
      rotate_left
      · (intro w hSw; (try dsimp only at hSw); (try unfold SN at hSw); go_simp)
        try with_reducible rfl
      try simp only [Act.put, List.getElem_toArray, List.getElem_cons_succ, List.getElem_cons_zero, List.setIfInBounds_toArray, List.set_cons_zero, List.set_cons_succ]
      refine Go.wpAnyH_take (fuel := 21) (i := 23) (oi := _) (v := ?_) rfl (by kernel_rfl) (by kernel_rfl) (by kernel_rfl) (fun _ _ _ h => h) (Or.inl ⟨by rfl, ?_⟩) (by first | exact hHeld | assumption) ?_
      rotate_left
      · (intro w hSw; (try dsimp only at hSw); (try unfold SN at hSw); go_simp)
        try with_reducible rfl
      try simp only [Act.put, List.getElem_toArray, List.getElem_cons_succ, List.getElem_cons_zero, List.setIfInBounds_toArray, List.set_cons_zero, List.set_cons_succ]
      refine Go.wpAnyH_take (fuel := 20) (i := 24) (oi := _) (v := ?_) rfl (by kernel_rfl) (by kernel_rfl) (by kernel_rfl) (fun _ _ _ h => h) (Or.inl ⟨by rfl, ?_⟩) (by first | exact hHeld | assumption) ?_
      rotate_left
      · (intro w hSw; (try dsimp only at hSw); (try unfold SN at hSw); go_simp)
        try with_reducible rfl
      try simp only [Act.put, List.getElem_toArray, List.getElem_cons_succ, List.getElem_cons_zero, List.setIfInBounds_toArray, List.set_cons_zero, List.set_cons_succ]
      refine Go.wpAnyH_take (fuel := 19) (i := 25) (oi := _) (v := ?_) rfl (by kernel_rfl) (by kernel_rfl) (by kernel_rfl) (fun _ _ _ h => h) (Or.inl ⟨by rfl, ?_⟩) (by first | exact hHeld | assumption) ?_
      rotate_left
      · (intro w hSw; (try dsimp only at hSw); (try unfold SN at hSw); go_simp)
        try with_reducible rfl
      try simp only [Act.put, List.getElem_toArray, List.getElem_cons_succ, List.getElem_cons_zero, List.setIfInBounds_toArray, List.set_cons_zero, List.set_cons_succ]
      refine Go.wpAnyH_take (fuel := 18) (i := 26) (oi := _) (v := ?_) rfl (by kernel_rfl) (by kernel_rfl) (by kernel_rfl) (fun _ _ _ h => h) (Or.inl ⟨by rfl, ?_⟩) (by first | exact hHeld | assumption) ?_
      rotate_left
      · (intro w hSw; (try dsimp only at hSw); (try unfold SN at hSw); go_simp)
        try with_reducible rfl
      try simp only [Act.put, List.getElem_toArray, List.getElem_cons_succ, List.getElem_cons_zero, List.setIfInBounds_toArray, List.set_cons_zero, List.set_cons_succ]
      refine Go.wpAnyH_take (fuel := 17) (i := 27) (oi := _) (v := ?_) rfl (by kernel_rfl) (by kernel_rfl) (by kernel_rfl) (fun _ _ _ h => h) (Or.inl ⟨by rfl, ?_⟩) (by first | exact hHeld | assumption) ?_
      rotate_left
      · (intro w hSw; (try dsimp only at hSw); (try unfold SN at hSw); go_simp)
        try with_reducible rfl
      try simp only [Act.put, List.getElem_toArray, List.getElem_cons_succ, List.getElem_cons_zero, List.setIfInBounds_toArray, List.set_cons_zero, List.set_cons_succ]
      refine Go.wpAnyH_take (fuel := 16) (i := 28) (oi := _) (v := ?_) rfl (by kernel_rfl) (by kernel_rfl) (by kernel_rfl) (fun _ _ _ h => h) (Or.inl ⟨by rfl, ?_⟩) (by first | exact hHeld | assumption) ?_
      rotate_left
      · (intro w hSw; (try dsimp only at hSw); (try unfold SN at hSw); go_simp)
        try with_reducible rfl
      try simp only [Act.put, List.getElem_toArray, List.getElem_cons_succ, List.getElem_cons_zero, List.setIfInBounds_toArray, List.set_cons_zero, List.set_cons_succ]
      refine Go.wpAnyH_ready (fuel := 15) (rs := [29]) (by kernel_rfl) (by simp) ?_
      refine Go.AllReadyH.cons (o := _) rfl (fun K hK => ?_) Go.AllReadyH.nil
      have HKX := Lib.hid hK
      clear hK
      go_simp
      go_at_call 21
      refine (one_anyA _).mono ?_
      rintro e w9 ⟨rfl, hb9⟩
      have HB9 := Lib.hid (HB8.out.trans (hb9.mono HB8.out.size))
      clear hb9
      have k3s := HCL.out _ HB9.out
      refine HKX.out.out _ _ k3s (fun hHeld => ?_)
      clear HKX
      try simp only [Act.put, List.getElem_toArray, List.getElem_cons_succ, List.getElem_cons_zero, List.setIfInBounds_toArray, List.set_cons_zero, List.set_cons_succ]
      refine Go.wpAnyH_take (fuel := 14) (i := 30) (oi := _) (v := ?_) rfl (by kernel_rfl) (by kernel_rfl) (by kernel_rfl) (fun _ _ _ h => h) (Or.inl ⟨by rfl, ?_⟩) (by first | exact hHeld | assumption) ?_
      rotate_left
      · (intro w hSw; (try dsimp only at hSw); (try unfold SN at hSw); go_simp)
        try with_reducible rfl
      try simp only [Act.put, List.getElem_toArray, List.getElem_cons_succ, List.getElem_cons_zero, List.setIfInBounds_toArray, List.set_cons_zero, List.set_cons_succ]
      refine Go.wpAnyH_take (fuel := 13) (i := 31) (oi := _) (v := ?_) rfl (by kernel_rfl) (by kernel_rfl) (by kernel_rfl) (fun _ _ _ h => h) (Or.inl ⟨by rfl, ?_⟩) (by first | exact hHeld | assumption) ?_
      rotate_left
      · (intro w hSw; (try dsimp only at hSw); (try unfold SN at hSw); go_simp)
        try with_reducible rfl
      try simp only [Act.put, List.getElem_toArray, List.getElem_cons_succ, List.getElem_cons_zero, List.setIfInBounds_toArray, List.set_cons_zero, List.set_cons_succ]
      refine Go.wpAnyH_take (fuel := 12) (i := 32) (oi := _) (v := ?_) rfl (by kernel_rfl) (by kernel_rfl) (by kernel_rfl) (fun _ _ _ h => h) (Or.inl ⟨by rfl, ?_⟩) (by first | exact hHeld | assumption) ?_
      rotate_left
      · (intro w hSw; (try dsimp only at hSw); (try unfold SN at hSw); go_simp)
        try with_reducible rfl
      try simp only [Act.put, List.getElem_toArray, List.getElem_cons_succ, List.getElem_cons_zero, List.setIfInBounds_toArray, List.set_cons_zero, List.set_cons_succ]
      refine Go.wpAnyH_take (fuel := 11) (i := 33) (oi := _) (v := undef) rfl (by kernel_rfl) (by kernel_rfl) (by kernel_rfl) (fun _ _ _ h => h) (Or.inr ⟨by rfl, rfl⟩) (by first | exact hHeld | assumption) ?_
      try simp only [Act.put, List.getElem_toArray, List.getElem_cons_succ, List.getElem_cons_zero, List.setIfInBounds_toArray, List.set_cons_zero, List.set_cons_succ]
      refine Go.wpAnyH_take (fuel := 10) (i := 34) (oi := _) (v := undef) rfl (by kernel_rfl) (by kernel_rfl) (by kernel_rfl) (fun _ _ _ h => h) (Or.inr ⟨by rfl, rfl⟩) (by first | exact hHeld | assumption) ?_
      try simp only [Act.put, List.getElem_toArray, List.getElem_cons_succ, List.getElem_cons_zero, List.setIfInBounds_toArray, List.set_cons_zero, List.set_cons_succ]
      refine Go.wpAnyH_take (fuel := 9) (i := 35) (oi := _) (v := undef) rfl (by kernel_rfl) (by kernel_rfl) (by kernel_rfl) (fun _ _ _ h => h) (Or.inr ⟨by rfl, rfl⟩) (by first | exact hHeld | assumption) ?_
      try simp only [Act.put, List.getElem_toArray, List.getElem_cons_succ, List.getElem_cons_zero, List.setIfInBounds_toArray, List.set_cons_zero, List.set_cons_succ]
      refine Go.wpAnyH_take (fuel := 8) (i := 36) (oi := _) (v := undef) rfl (by kernel_rfl) (by kernel_rfl) (by kernel_rfl) (fun _ _ _ h => h) (Or.inr ⟨by rfl, rfl⟩) (by first | exact hHeld | assumption) ?_
      try simp only [Act.put, List.getElem_toArray, List.getElem_cons_succ, List.getElem_cons_zero, List.setIfInBounds_toArray, List.set_cons_zero, List.set_cons_succ]
      refine Go.wpAnyH_take (fuel := 7) (i := 37) (oi := _) (v := undef) rfl (by kernel_rfl) (by kernel_rfl) (by kernel_rfl) (fun _ _ _ h => h) (Or.inr ⟨by rfl, rfl⟩) (by first | exact hHeld | assumption) ?_
      try simp only [Act.put, List.getElem_toArray, List.getElem_cons_succ, List.getElem_cons_zero, List.setIfInBounds_toArray, List.set_cons_zero, List.set_cons_succ]
      refine Go.wpAnyH_take (fuel := 6) (i := 38) (oi := _) (v := undef) rfl (by kernel_rfl) (by kernel_rfl) (by kernel_rfl) (fun _ _ _ h => h) (Or.inr ⟨by rfl, rfl⟩) (by first | exact hHeld | assumption) ?_
      try simp only [Act.put, List.getElem_toArray, List.getElem_cons_succ, List.getElem_cons_zero, List.setIfInBounds_toArray, List.set_cons_zero, List.set_cons_succ]
      refine Go.wpAnyH_take (fuel := 5) (i := 39) (oi := _) (v := undef) rfl (by kernel_rfl) (by kernel_rfl) (by kernel_rfl) (fun _ _ _ h => h) (Or.inr ⟨by rfl, rfl⟩) (by first | exact hHeld | assumption) ?_
      try simp only [Act.put, List.getElem_toArray, List.getElem_cons_succ, List.getElem_cons_zero, List.setIfInBounds_toArray, List.set_cons_zero, List.set_cons_succ]
      refine Go.wpAnyH_take (fuel := 4) (i := 40) (oi := _) (v := undef) rfl (by kernel_rfl) (by kernel_rfl) (by kernel_rfl) (fun _ _ _ h => h) (Or.inr ⟨by rfl, rfl⟩) (by first | exact hHeld | assumption) ?_
      try simp only [Act.put, List.getElem_toArray, List.getElem_cons_succ, List.getElem_cons_zero, List.setIfInBounds_toArray, List.set_cons_zero, List.set_cons_succ]
      refine Go.wpAnyH_take (fuel := 3) (i := 41) (oi := _) (v := undef) rfl (by kernel_rfl) (by kernel_rfl) (by kernel_rfl) (fun _ _ _ h => h) (Or.inr ⟨by rfl, rfl⟩) (by first | exact hHeld | assumption) ?_
      try simp only [Act.put, List.getElem_toArray, List.getElem_cons_succ, List.getElem_cons_zero, List.setIfInBounds_toArray, List.set_cons_zero, List.set_cons_succ]
      refine Go.wpAnyH_take (fuel := 2) (i := 42) (oi := _) (v := ?_) rfl (by kernel_rfl) (by kernel_rfl) (by kernel_rfl) (fun _ _ _ h => h) (Or.inl ⟨by rfl, ?_⟩) (by first | exact hHeld | assumption) ?_
      rotate_left
      · (intro w hSw; (try dsimp only at hSw); (try unfold SN at hSw); go_simp)
        try with_reducible rfl
      try simp only [Act.put, List.getElem_toArray, List.getElem_cons_succ, List.getElem_cons_zero, List.setIfInBounds_toArray, List.set_cons_zero, List.set_cons_succ]
      refine Go.wpAnyH_take (fuel := 1) (i := 43) (oi := _) (v := ?_) rfl (by kernel_rfl) (by kernel_rfl) (by kernel_rfl) (fun _ _ _ h => h) (Or.inl ⟨by rfl, ?_⟩) (by first | exact hHeld | assumption) ?_
      rotate_left
      · (intro w hSw; (try dsimp only at hSw); (try unfold SN at hSw); go_simp)
        try with_reducible rfl
      try simp only [Act.put, List.getElem_toArray, List.getElem_cons_succ, List.getElem_cons_zero, List.setIfInBounds_toArray, List.set_cons_zero, List.set_cons_succ]
      refine Go.wpAnyH_take (fuel := 0) (i := 44) (oi := _) (v := ?_) rfl (by kernel_rfl) (by kernel_rfl) (by kernel_rfl) (fun _ _ _ h => h) (Or.inl ⟨by rfl, ?_⟩) (by first | exact hHeld | assumption) ?_
      rotate_left
      · (intro w hSw; (try dsimp only at hSw); (try unfold SN at hSw); go_simp)
        try with_reducible rfl
      try simp only [Act.put, List.getElem_toArray, List.getElem_cons_succ, List.getElem_cons_zero, List.setIfInBounds_toArray, List.set_cons_zero, List.set_cons_succ]
      refine Go.wpAnyH_done (by kernel_rfl) ?_ _
      have HFIN := Lib.hid (HB6.out.trans (HB9.out.mono HB6.out.size))
      clear HCL KW KT s0 k1s k2s k3s HB9 HB7 HB8 HB6 p0 p1 p2 p3 p4 p5 o0 o1 m0 m1 HSH
      go_wp2
      go_ret
      exact ⟨rfl, HFIN.out⟩
/-- what is told of a request is so on the ground of now -/
theorem good_any (h : SV b0 w Z W H AC cC l turn σ D) {i : Nat} (hi : i < 6) {g : Slt} (hg : σ i = some g) :
    Calls Try.prog 22 #[.pointer (some ⟨Z, 0, none⟩), .int .i64 i, .int .i64 g.f, .int .i64 g.F.tt] w fun e w' => e = .returned (.bool true) ∧ Below w.heap.size w w' := by
  obtain ⟨st, r, hp, ⟨_, rfl, _⟩ | ⟨_, rfl, _⟩ | ⟨R0, hr, hst⟩⟩ := poll_any h hi hg
  · exact good_one h hi hg hp
  · exact good_three h hi hg hp
  · by_cases ho : g.s.rds.length = g.F.ws.length
    · rw [if_pos ho] at hst; subst hst; exact good_four h hi hg hp hr
    · rw [if_neg ho] at hst; subst hst; exact good_two h hi hg hp hr
end
end Go.Proofs.Ytpoolpaagbeokaa.ServeG

namespace Go.Proofs.Ytpoolpaagbeokaa.Serve
open Go.RowKit Go.Proofs.Ytpoolpaagbeokaa NetLaw BellLaw StarLaw AraLaw Go.Proofs.Ytpoolpaagbeokaa.Net Go.Proofs.Ytpoolpaagbeokaa.Std Go.Proofs.Ytpoolpaagbeokaa.Flow Go.Proofs.Ytpoolpaagbeokaa.Ara Go.Proofs.Ytpoolpaagbeokaa.GroundLaw
open Go.Proofs.Ytpoolpaagbeokaa.GridLaw hiding E
open Go.Proofs.Ytpoolpaagbeokaa.ServeLaw
set_option linter.unusedSimpArgs false
set_option linter.unusedVariables false
theorem good_set {W H : Int} {l : List Int} (h : GGood W H l) {k : Nat} {v : Int} (h0 : 0 ≤ v) (h9 : v ≤ 9) : GGood W H (l.set k v) :=
  ⟨h.w1, h.w8, h.h1, h.h8, by rw [List.length_set]; exact h.len, fun c hc => by
    rcases List.mem_or_eq_of_mem_set hc with e | e
    · exact h.cell c e
    · subst e; exact ⟨h0, h9⟩⟩
/-- what an edit makes of a request -/
structure Ed1 (g g' : Slt) : Prop where
  f : g'.f = g.f
  t : g'.F.tt = g.F.tt
  ws : g'.F.ws = g.F.ws
  k : g'.k = 0
  told : (g.s.rds = [] ∧ g'.T.rnd = g.T.rnd ∧ g'.sm = g.sm) ∨ (∃ R0 r, g.s.rds = R0 ++ [r] ∧ g'.T.rnd = r ∧ g'.sm = true)
/-- the requests below k are edited -/
def EdTo (k : Nat) (σ σ1 : Nat → Option Slt) : Prop := ∀ j, (σ j = none ∧ σ1 j = none) ∨ ∃ g g', σ j = some g ∧ σ1 j = some g' ∧ (j < k → Ed1 g g') ∧ (k ≤ j → g' = g)
theorem Off.set_ {D : Nat → Prop} {w w' : World} (h : Off D w w') {p : Addr} (hp : D p.block) (v : Value) : Off D w (w'.setCell p v) :=
  ⟨h.os, h.tape, h.output, by simp only [World.setCell, Array.size_modify]; exact h.size, fun g hg hn => (Below.heap_setCell _ _ _ _ (fun e => hn (by rw [e]; exact hp))).trans (h.block g hg hn)⟩
theorem EdTo.start (σ : Nat → Option Slt) : EdTo 0 σ σ := fun j => by
  cases h : σ j with
  | none => exact .inl ⟨rfl, rfl⟩
  | some g => exact .inr ⟨g, g, rfl, rfl, fun h => by omega, fun _ => rfl⟩
theorem EdTo.skip {k : Nat} {σ σ1 : Nat → Option Slt} (h : EdTo k σ σ1) (hn : σ1 k = none) : EdTo (k + 1) σ σ1 := fun j => by
  rcases h j with h1 | ⟨g, g', e1, e2, h1, h2⟩
  · exact .inl h1
  · refine .inr ⟨g, g', e1, e2, fun hj => h1 ?_, fun hj => h2 (by omega)⟩
    by_cases e : j = k
    · subst e; rw [hn] at e2; cases e2
    · omega
theorem EdTo.at_ {k : Nat} {σ σ1 : Nat → Option Slt} (h : EdTo k σ σ1) : σ1 k = σ k := by
  rcases h k with ⟨e, e'⟩ | ⟨g, g', e, e', _, h2⟩
  · rw [e, e']
  · rw [e, e', h2 (Nat.le_refl _)]
theorem EdTo.take {k : Nat} {σ σ1 : Nat → Option Slt} (h : EdTo k σ σ1) {g g' : Slt} (hg : σ1 k = some g) (he : Ed1 g g') : EdTo (k + 1) σ (upd1 σ1 k (some g')) := fun j => by
  by_cases e : j = k
  · subst e
    rcases h j with ⟨_, e2⟩ | ⟨g0, g1, e1, e2, _, h2⟩
    · rw [hg] at e2; cases e2
    · obtain rfl := h2 (Nat.le_refl _)
      rw [hg] at e2
      injection e2 with e2
      subst e2
      exact .inr ⟨g, g', e1, upd1_eq .., fun _ => he, fun hj => by omega⟩
  · rw [upd1_ne _ _ e]
    rcases h j with h1 | ⟨g0, g1, e1, e2, h1, h2⟩
    · exact .inl h1
    · exact .inr ⟨g0, g1, e1, e2, fun hj => h1 (by omega), fun hj => h2 (by omega)⟩
section
variable {b0 : Nat} {w w' : World} {Z : Nat} {W H : Int} {AC : Option Addr} {cC : Nat} {l : List Int} {turn : Nat} {σ : Nat → Option Slt} {D : Nat → Nat → Prop} {M : Nat → List E}
theorem SVM.skip (h : SVM b0 w Z W H AC cC l turn σ D M) {i : Nat} (hn : σ i = none) (m : List E) : SVM b0 w Z W H AC cC l turn σ D (upd1 M i m) :=
  ⟨h.z, h.zl, h.cells, h.good, h.tl, fun j hj g e => by
    by_cases e2 : j = i
    · subst e2; rw [hn] at e; cases e
    · rw [upd1_ne _ _ e2]; exact h.slot j hj g e, h.sepD, h.out, h.dom⟩
/-- an edit under way: the requests below k are edited -/
structure Eu (b0 : Nat) (w : World) (Z : Nat) (W H : Int) (AC : Option Addr) (cC : Nat) (l : List Int) (turn : Nat) (σ : Nat → Option Slt) (D : Nat → Nat → Prop) (k : Nat) (σ1 : Nat → Option Slt) (D1 : Nat → Nat → Prop) (M : Nat → List E) (w1 : World) : Prop where
  sv : SVM b0 w1 Z W H AC cC l turn σ1 D1 M
  net : ∀ j, j < k → M j = allM W H l l.length
  ed : EdTo k σ σ1
  off : Off (fun g => g = Z ∨ ob AC = some g ∨ DS D g) w w1
  new : ∀ g, DS D1 g → DS D g ∨ w.heap.size ≤ g
theorem Eu.keep {k : Nat} {σ1 : Nat → Option Slt} {D1 : Nat → Nat → Prop} {w1 w2 : World} (h : Eu b0 w Z W H AC cC l turn σ D k σ1 D1 M w1) (hb : Below w1.heap.size w1 w2) : Eu b0 w Z W H AC cC l turn σ D k σ1 D1 M w2 :=
  ⟨h.sv.keep hb, h.net, h.ed, h.off.below_ hb, h.new⟩
theorem Eu.skip {k : Nat} {σ1 : Nat → Option Slt} {D1 : Nat → Nat → Prop} {w1 : World} (h : Eu b0 w Z W H AC cC l turn σ D k σ1 D1 M w1) (hn : σ1 k = none) : Eu b0 w Z W H AC cC l turn σ D (k + 1) σ1 D1 (upd1 M k (allM W H l l.length)) w1 :=
  ⟨h.sv.skip hn _, fun j hj => by
    by_cases e : j = k
    · subst e; exact upd1_eq ..
    · rw [upd1_ne _ _ e]; exact h.net j (by omega), h.ed.skip hn, h.off, h.new⟩
theorem Eu.take {k : Nat} (hk : k < 6) {σ1 : Nat → Option Slt} {D1 : Nat → Nat → Prop} {w1 w2 : World} (h : Eu b0 w Z W H AC cC l turn σ D k σ1 D1 M w1) {g g' : Slt} (hg : σ1 k = some g) (he : Ed1 g g') (hQ : g'.Q = g.Q) (hs : SL b0 w2 l.length (allM W H l l.length) (grow (D1 k) w1 w2) g') (ho : Off (fun x => x = g.Q) w1 w2) :
    Eu b0 w Z W H AC cC l turn σ D (k + 1) (upd1 σ1 k (some g')) (upd1 D1 k (grow (D1 k) w1 w2)) (upd1 M k (allM W H l l.length)) w2 := by
  have hQD : D1 k g.Q := (h.sv.slot k hk g hg).inn _ (.inl rfl)
  have ho2 : Off (D1 k) w1 w2 := ho.more fun x e => by rw [e]; exact hQD
  refine ⟨h.sv.change hk hg hQ hs ho2, fun j hj => ?_, h.ed.take hg he, h.off.trans ho2 (fun x hx => ?_), fun x hx => ?_⟩
  · by_cases e : j = k
    · subst e; exact upd1_eq ..
    · rw [upd1_ne _ _ e]; exact h.net j (by omega)
  · rcases h.new x ⟨k, hk, hx⟩ with e | e
    · exact .inl (.inr (.inr e))
    · exact .inr e
  · obtain ⟨i, hi6, hyi⟩ := hx
    by_cases e : i = k
    · subst e
      rw [upd1_eq] at hyi
      rcases hyi with hyi | ⟨hyi, _⟩
      · exact h.new x ⟨i, hi6, hyi⟩
      · exact .inr (Nat.le_trans h.off.size hyi)
    · rw [upd1_ne _ _ e] at hyi
      exact h.new x ⟨i, hi6, hyi⟩
/-- what Edit answers where it changes the ground -/
def EditSays (b0 : Nat) (w : World) (Z : Nat) (W H : Int) (AC : Option Addr) (cC : Nat) (l : List Int) (turn : Nat) (σ : Nat → Option Slt) (D : Nat → Nat → Prop) (e : Ending) (w' : World) : Prop :=
  e = .returned (.int .i64 0) ∧ ∃ σ' D', SV b0 w' Z W H AC cC l turn σ' D' ∧ EdTo 6 σ σ' ∧ Off (fun g => g = Z ∨ ob AC = some g ∨ DS D g) w w' ∧ ∀ g, DS D' g → DS D g ∨ w.heap.size ≤ g
theorem Eu.end_ {σ1 : Nat → Option Slt} {D1 : Nat → Nat → Prop} {w1 : World} (h : Eu b0 w Z W H AC cC l turn σ D 6 σ1 D1 M w1) : EditSays b0 w Z W H AC cC l turn σ D (.returned (.int .i64 0)) w1 :=
  ⟨rfl, σ1, D1, h.sv.toSV h.net, h.ed, h.off, h.new⟩
/-- the search of a slot's request on the ground of now -/
theorem search_slot {w2 : World} {n : Nat} {m : List E} {Dk : Nat → Prop} {g : Slt} (h : SVM b0 w Z W H AC cC l turn σ D M) (hg : SL b0 w n m Dk g) (hn : n = l.length) (hd : ∀ x, Dk x → x ≠ Z ∧ ob AC ≠ some x) (ho : Off (fun x => x = g.Q) w w2) (T : RE) (sm : Bool) :
    Calls Try.prog 33 #[.pointer (some ⟨Z, 0, none⟩), askV g.f g.F.tt g.AW g.F.ws.length g.cW T sm] w2 fun e w' => SearchYes l.length g.f g.F.tt (allM W H l l.length) g.F.ws w2 e w' := by
  have hQ := hd _ (hg.inn _ (.inl rfl))
  have hz := blk_off h.z ho (fun e => hQ.1 e.symm)
  have hc := own_off h.cells ho (fun x e e2 => hQ.2 (e2 ▸ e))
  have hw := own_off hg.wt ho (fun x e e2 => hg.wt.ne_ hg.z (by decide) ((ob_ ..).trans (e2 ▸ e)))
  have hAw : g.AW = none → g.F.ws.length = 0 ∧ g.cW = 0 := by
    obtain ⟨A9, c9, e9, _, h9⟩ := hw.form
    injection e9 with e1 e2 e3
    subst e1 e3
    exact h9
  obtain ⟨e1, _, _⟩ := hg.net
  have hf := hg.po.fr
  have ht := hg.fo.tt
  exact search_yes Z W H AC cC l g.f g.F.tt g.AW g.cW g.F.ws T sm w2 hc.sl.2 h.good hw.sl.2 hAw (by omega) (by omega) hg.wc (blk_cell hz 0) (blk_cell hz 1) (blk_cell hz 2) (lt_of_block hz)
/-- the slot behind an edit -/
theorem SL.redo {n : Nat} {m m' : List E} {Dk : Nat → Prop} {g : Slt} {w2 w3 : World} (h : SL b0 w n m Dk g) (hb0 : b0 ≤ w.heap.size) (ho2 : Off (fun x => x = g.Q) w w2) (hb3 : Below w2.heap.size w2 w3) {T : RE} {sm : Bool} {P b : Nat} {FF : Fix} {Y : Var} {s : AS} (e1 : FF.n = n) (e2 : FF.tt = g.F.tt) (e3 : FF.l = m') (e4 : FF.h = ServeLaw.zs n) (e5 : FF.ws = g.F.ws) (fo : FO FF) (po : PO FF g.f) (hb : w2.heap.size ≤ b) (sr : SR b w3 P FF Y g.f 0 s)
    (hz : w2.heap[g.Q]? = some (.cells #[.pointer (some ⟨g.P, 0, none⟩), .int .i64 g.f, .int .i64 g.F.tt, .slice g.AW g.F.ws.length g.cW, .int .i64 T.num, .int .i64 T.den, .slice T.A T.k T.c, .int .i64 T.cost, .int .i64 T.done, .bool sm] 89 (0, 0)))
    (hT : Own w2 b0 3 1 ci (.slice T.A T.k T.c) T.path) (hk : T.k ≤ 64) (hTn : ∀ x, ob T.A = some x → Dk x ∨ w.heap.size ≤ x) :
    SL b0 (w3.setCell ⟨g.Q, 0, none⟩ (.pointer (some ⟨P, 0, none⟩))) n m' (grow Dk w (w3.setCell ⟨g.Q, 0, none⟩ (.pointer (some ⟨P, 0, none⟩)))) ⟨g.Q, P, b, FF, Y, s, g.f, 0, g.AW, g.cW, T, sm⟩ ∧ Off (fun x => x = g.Q) w (w3.setCell ⟨g.Q, 0, none⟩ (.pointer (some ⟨P, 0, none⟩))) := by
  have hQ2 := lt_of_block hz
  have ho3 : Off (fun x => x = g.Q) w (w3.setCell ⟨g.Q, 0, none⟩ (.pointer (some ⟨P, 0, none⟩))) :=
    (ho2.below_ hb3).trans (w' := w3) (D' := fun x => x = g.Q) ⟨rfl, rfl, rfl, by simp [World.setCell], fun x hg hn => Below.heap_setCell _ _ _ _ hn⟩ (fun x hx => .inl hx)
  have hz3 := blk_below hz hb3 hQ2
  have hz4 := blk_set hz3 0 (.pointer (some ⟨P, 0, none⟩))
  have hsr : SR b (w3.setCell ⟨g.Q, 0, none⟩ (.pointer (some ⟨P, 0, none⟩))) P FF Y g.f 0 s :=
    ⟨sr.run, ⟨sr.sm.am.far (p := ⟨g.Q, 0, none⟩) (fun ha => by have h1 := (sr.sm.am.all ha).1; dsimp only at h1; omega) _, sr.sm.hr, sr.sm.cb⟩, sr.top⟩
  have hTQ : ∀ x, ob T.A = some x → x ≠ g.Q := fun x e e2 => hT.ne_ hz (by decide) ((ob_ ..).trans (e2 ▸ e))
  refine ⟨h.renew hb0 rfl rfl rfl e5 ho3 ?_ hsr fo po ⟨e1, e3, e4⟩ ?_ hk (fun x e => ⟨hTn x e, Nat.lt_of_lt_of_le (hT.base_ x ((ob_ ..).trans e)).2 hb⟩) (Nat.le_trans ho2.size hb), ho3⟩
  · rw [hz4]
    unfold slotC
    dsimp only
    rw [e2, e5]
    rfl
  · exact (hT.keep hb3).setCell (p := ⟨g.Q, 0, none⟩) (fun e => hTQ g.Q ((ob_ ..).symm.trans e) rfl) _

set_option maxRecDepth 100000 in
set_option maxHeartbeats 8000000 in
/-- no such cell, or no such ground -/
theorem edit_bad (h : SV b0 w Z W H AC cC l turn σ D) (k v : Int) (hb : k < 0 ∨ (l.length : Int) ≤ k ∨ v < 0 ∨ 9 < v) :
    Calls Try.prog 23 #[.pointer (some ⟨Z, 0, none⟩), .int .i64 k, .int .i64 v] w fun e w' => e = .returned (.int .i64 (if k < 0 ∨ (l.length : Int) ≤ k then 1 else 4)) ∧ Below w.heap.size w w' := by
  obtain ⟨z0, z1, z2, _, _, zp⟩ := h.zs
  have hll := size_bd h.good
  clear h
  generalize l.length = n at *
  by_cases h0 : k < 0
  · have e : (if k < 0 ∨ (n : Int) ≤ k then (1 : Int) else 4) = 1 := if_pos (.inl h0)
    rw [e]
    clear e hb
    go_enter Try.func23, Try.ntmps23
    go_wp2
    go_ret
    exact ⟨rfl, Below.refl _ _⟩
  · by_cases h1 : (n : Int) ≤ k
    · have e : (if k < 0 ∨ (n : Int) ≤ k then (1 : Int) else 4) = 1 := if_pos (.inr h1)
      rw [e]
      clear e hb
      go_enter Try.func23, Try.ntmps23
      go_wp2
      go_ret
      exact ⟨rfl, Below.refl _ _⟩
    · have e : (if k < 0 ∨ (n : Int) ≤ k then (1 : Int) else 4) = 4 := if_neg (by omega)
      rw [e]
      clear e
      by_cases h2 : v < 0
      · clear hb
        go_enter Try.func23, Try.ntmps23
        go_wp2
        go_ret
        exact ⟨rfl, Below.refl _ _⟩
      · have h3 : 9 < v := by omega
        clear hb
        go_enter Try.func23, Try.ntmps23
        go_wp2
        go_ret
        exact ⟨rfl, Below.refl _ _⟩
set_option maxRecDepth 100000 in
set_option maxHeartbeats 8000000 in
/-- the ground is so already -/
theorem edit_same (h : SV b0 w Z W H AC cC l turn σ D) (k : Nat) (hk : k < l.length) (v : Int) (h0 : 0 ≤ v) (h9 : v ≤ 9) (he : l.getD k 0 = v) :
    Calls Try.prog 23 #[.pointer (some ⟨Z, 0, none⟩), .int .i64 k, .int .i64 v] w fun e w' => e = .returned (.int .i64 0) ∧ Below w.heap.size w w' := by
  obtain ⟨z0, z1, z2, _, _, zp⟩ := h.zs
  have hll := size_bd h.good
  obtain ⟨S, c', hv, -, hS, -, -⟩ := h.cells.some_ (by omega)
  injection hv with hA e2 e3
  clear e2 e3
  subst hA
  obtain ⟨y0, y1⟩ := own_atG (0 : Int) rfl h.cells hk
  simp only [ci] at y0
  rw [he] at y0
  clear h he
  have zk : ¬ (k : Int) < 0 := by omega
  have zk2 : ¬ (l.length : Int) ≤ k := by omega
  have zk3 : (k : Int) < l.length := by omega
  have v0 : ¬ v < 0 := by omega
  have v9 : ¬ 9 < v := by omega
  generalize l.length = n at *
  go_enter Try.func23, Try.ntmps23
  go_wp2
  go_ret
  exact ⟨rfl, Below.refl _ _⟩
set_option maxRecDepth 100000 in
set_option maxHeartbeats 16000000 in
/-- the ground changes, and each request is searched for anew -/
theorem edit_yes (h : SV b0 w Z W H AC cC l turn σ D) (k : Nat) (hk : k < l.length) (v : Int) (h0 : 0 ≤ v) (h9 : v ≤ 9) (he : l.getD k 0 ≠ v) :
    Calls Try.prog 23 #[.pointer (some ⟨Z, 0, none⟩), .int .i64 k, .int .i64 v] w fun e w' => EditSays b0 w Z W H AC cC (l.set k v) turn σ D e w' := by
  obtain ⟨z0, z1, z2, _, _, zp⟩ := h.zs
  have hll := size_bd h.good
  obtain ⟨S, c', hv, -, hS, -, -⟩ := h.cells.some_ (by omega)
  injection hv with hA e2 e3
  clear e2 e3
  subst hA
  obtain ⟨y0, y1⟩ := own_atG (0 : Int) rfl h.cells hk
  simp only [ci] at y0
  obtain ⟨svm, hof⟩ := h.ground_ rfl hk (good_set h.good (k := k) h0 h9)
  have hne : (l.getD k 0 == v) = false := by simpa using he
  have hEu : Eu b0 w Z W H (some ⟨S, 0, none⟩) cC (l.set k v) turn σ D 0 σ D (fun _ => allM W H l l.length) (w.setCell ⟨S, k, none⟩ (.int .i64 v)) :=
    ⟨svm, fun j hj => by omega, EdTo.start σ, hof.more (fun x hx => .inr (.inl hx)), fun x hx => .inl hx⟩
  have HE := Lib.hid hEu
  clear h he hof hEu
  have zk : ¬ (k : Int) < 0 := by omega
  have zk2 : ¬ (l.length : Int) ≤ k := by omega
  have zk3 : (k : Int) < l.length := by omega
  have v0 : ¬ v < 0 := by omega
  have v9 : ¬ 9 < v := by omega
  generalize hx : l.getD k 0 = x at *
  have HL := Lib.hid hx
  clear hx
  have hlen : (l.set k v).length = l.length := List.length_set
  generalize l.set k v = l2 at *
  rw [← hlen] at z2 hll zk2 zk3 hk
  clear hlen HL svm
  generalize hn : l2.length = n at z2 hll zk2 zk3 hk
  have HLN := Lib.hid hn
  clear hn
  go_enter Try.func23, Try.ntmps23
  go_upto_region 8 with fail
  generalize w.setCell ⟨S, k, none⟩ (.int .i64 v) = w1 at HE ⊢
  have a0 : w1.cell? ⟨Z, 3, none⟩ = some (sp (σ 0)) := (HE.out.sv.at_ (i := 0) (by decide)).1
  have a1 : w1.cell? ⟨Z, 4, none⟩ = some (sp (σ 1)) := (HE.out.sv.at_ (i := 1) (by decide)).1
  have a2 : w1.cell? ⟨Z, 5, none⟩ = some (sp (σ 2)) := (HE.out.sv.at_ (i := 2) (by decide)).1
  have a3 : w1.cell? ⟨Z, 6, none⟩ = some (sp (σ 3)) := (HE.out.sv.at_ (i := 3) (by decide)).1
  have a4 : w1.cell? ⟨Z, 7, none⟩ = some (sp (σ 4)) := (HE.out.sv.at_ (i := 4) (by decide)).1
  have a5 : w1.cell? ⟨Z, 8, none⟩ = some (sp (σ 5)) := (HE.out.sv.at_ (i := 5) (by decide)).1
  clear z0 z1 z2 y0 y1 hne v0 v9 zk zk2 zk3
  have zp1 := HE.out.sv.zs.2.2.2.2.2
  go_wp2
  go_loopw [50] (fun j wr => ∃ (i : Nat) (σ1 : Nat → Option Slt) (D1 : Nat → Nat → Prop) (M1 : Nat → List E), j = .int .i64 i ∧ i ≤ 6 ∧ Hid (Eu b0 w Z W H (some ⟨S, 0, none⟩) cC l2 turn σ D i σ1 D1 M1 wr)) (fun j _ => 6 - (intOf j).toNat)
  case atStart => exact ⟨0, _, _, _, rfl, by decide, HE⟩
  case round =>
    obtain ⟨i, σ1, D1, M1, rfl, hi6, HEU⟩ := hrel
    clear HE a0 a1 a2 a3 a4 a5 zp1
    by_cases hk6 : i < 6
    · have hidx : ∀ u, (Instr.index 82 (.agg #[sp (σ 0), sp (σ 1), sp (σ 2), sp (σ 3), sp (σ 4), sp (σ 5)]) (.int .i64 (i : Int))).run Try.prog u = .ok (sp (σ i)) u := by
        have hc : i = 0 ∨ i = 1 ∨ i = 2 ∨ i = 3 ∨ i = 4 ∨ i = 5 := by omega
        intro u
        rcases hc with rfl | rfl | rfl | rfl | rfl | rfl <;> rfl
      have zk : (i : Int) < 6 := by omega
      rw [← HEU.out.ed.at_] at hidx
      cases hg : σ1 i with
      | none =>
        rw [hg] at hidx
        have hidx2 : ∀ u, (Instr.index 82 (.agg #[sp (σ 0), sp (σ 1), sp (σ 2), sp (σ 3), sp (σ 4), sp (σ 5)]) (.int .i64 (i : Int))).run Try.prog u = .ok (.pointer none) u := hidx
        have HE2 := Lib.hid (HEU.out.skip hg)
        clear hidx hg HEU
        go_wp2
        go_roundw
        case rel => exact ⟨i + 1, _, _, _, by go_num, hk6, HE2⟩
        case measure => simp [intOf]; omega
      | some g =>
        rw [hg] at hidx
        have hidx2 : ∀ u, (Instr.index 82 (.agg #[sp (σ 0), sp (σ 1), sp (σ 2), sp (σ 3), sp (σ 4), sp (σ 5)]) (.int .i64 (i : Int))).run Try.prog u = .ok (.pointer (some ⟨g.Q, 0, none⟩)) u := hidx
        have HG := Lib.hid hg
        have hsl := HEU.out.sv.slot i hk6 g hg
        have q0 := blk_cell hsl.z 0
        have zq := lt_of_block hsl.z
        simp only [List.getElem?_toArray, List.getElem?_cons_zero, List.getElem?_cons_succ] at q0
        obtain ⟨hp1, hp2⟩ := SI.paths (hsl.sr.si hsl.fo hsl.po)
        have krd := rounds_any hsl.sr.sm.am hp1 (by have := hsl.fo.wl; omega)
        have KRD := Lib.hid krd
        have HSL := Lib.hid hsl
        have HP1 := Lib.hid hp1
        clear hidx hg hsl krd hp1 hp2
        go_wp2_with fail
        refine KRD.out.mono ?_
        rintro e w2 ⟨A, kk, c, R, rfl, hRC, hb2⟩
        clear KRD q0 zq hidx2
        have hk8 : kk ≤ 8 := by have h1 := hRC.len.2; have h2 := (SI.paths (HSL.out.sr.si HSL.out.fo HSL.out.po)).2; have := HSL.out.fo.wl; omega
        have hslz := blk_below HSL.out.z hb2 (lt_of_block HSL.out.z)
        have HB2 := Lib.hid hb2
        have HRC := Lib.hid hRC
        have HSZ := Lib.hid hslz
        clear hb2 hRC hslz
        rcases List.eq_nil_or_concat g.s.rds with hr | ⟨R0, r, hr⟩
        · obtain rfl : kk = 0 := by rw [← HRC.out.len.2, hr]; rfl
          have HR := Lib.hid hr
          clear hr
          have HSZ2 := Lib.hid HSZ.out
          have HOF2 : Hid (Off (fun x => x = g.Q) wr w2) := Lib.hid (Off.of HB2.out)
          have HTO := Lib.hid (HSL.out.told.keep HB2.out)
          have HTK := Lib.hid HSL.out.k64
          have HTN : Hid (∀ x, ob g.T.A = some x → D1 i x ∨ wr.heap.size ≤ x) := Lib.hid (fun x e => .inl (HSL.out.inn x (.inr (.inr (.inl e)))))
          have ks := search_slot HEU.out.sv HSL.out rfl (HEU.out.sv.out i hk6) HOF2.out g.T g.sm
          unfold askV at ks
          have KS := Lib.hid ks
          clear ks HSZ HB2 HRC
          have q1 := blk_cell HSZ2.out 1
          have q2 := blk_cell HSZ2.out 2
          have q3 := blk_cell HSZ2.out 3
          have q4 := blk_cell HSZ2.out 4
          have q5 := blk_cell HSZ2.out 5
          have q6 := blk_cell HSZ2.out 6
          have q7 := blk_cell HSZ2.out 7
          have q8 := blk_cell HSZ2.out 8
          have q9 := blk_cell HSZ2.out 9
          have zq := lt_of_block HSZ2.out
          simp only [List.getElem?_toArray, List.getElem?_cons_zero, List.getElem?_cons_succ] at q1 q2 q3 q4 q5 q6 q7 q8 q9
          go_wp2_with fail
          refine KS.out.mono ?_
          rintro e w3 ⟨P, b, FF, Y, s, rfl, e1, e2, e3, e4, e5, fo, po, hbl, sr, hb3⟩
          have hz3 := blk_below HSZ2.out hb3 (lt_of_block HSZ2.out)
          have hredo := SL.redo HSL.out HEU.out.sv.size HOF2.out hb3 e1 e2 e3 e4 e5 fo po hbl sr HSZ2.out HTO.out HTK.out HTN.out
          have HE3 := Lib.hid (HEU.out.take hk6 HG.out (g' := ⟨g.Q, P, b, FF, Y, s, g.f, 0, g.AW, g.cW, g.T, g.sm⟩) ⟨rfl, e2, e5, rfl, .inl ⟨HR.out, rfl, rfl⟩⟩ rfl hredo.1 hredo.2)
          have q0 := blk_cell hz3 0
          have f0 := blk_free hz3 0
          have zq := lt_of_block hz3
          simp only [List.getElem?_toArray, List.getElem?_cons_zero, List.getElem?_cons_succ] at q0
          clear hredo hz3 hb3 sr fo po hbl e1 e2 e3 e4 e5 KS HSZ2 HOF2 HTO HTK HTN HEU HSL
          go_wp2
          go_roundw
          case rel => exact ⟨i + 1, _, _, _, by go_num, hk6, HE3⟩
          case measure => simp [intOf]; omega
        · rw [List.concat_eq_append] at hr
          obtain rfl : kk = R0.length + 1 := by rw [← HRC.out.len.2, hr]; simp
          have HR := Lib.hid hr
          obtain ⟨x, S9, _, hxm, hxr, hA9, _, hS9, ⟨c0, c1, c2, c3, c4⟩, _⟩ := HRC.out.at_ (j := R0.length) (Nat.lt_succ_self _)
          rw [hr, List.getElem?_append_right (Nat.le_refl _), Nat.sub_self] at hxr
          subst hA9
          have HTE : Hid (x.rnd = r) := Lib.hid (by simpa using hxr.symm)
          have HTO2 := Lib.hid (HRC.out.ways x hxm)
          have HTK : Hid (x.k ≤ 64) := Lib.hid (by
            have h1 := (HRC.out.ways x hxm).sl.1
            have h2 := HP1.out x.rnd (by rw [← HRC.out.rnd]; exact List.mem_map_of_mem hxm)
            have h3 : x.path.length ≤ 64 := h2
            omega)
          have q4 := blk_cell HSZ.out 4
          have q5 := blk_cell HSZ.out 5
          have q6 := blk_cell HSZ.out 6
          have q7 := blk_cell HSZ.out 7
          have q8 := blk_cell HSZ.out 8
          have q9 := blk_cell HSZ.out 9
          have f4 := blk_free HSZ.out 4
          have f5 := blk_free HSZ.out 5
          have f6 := blk_free HSZ.out 6
          have f7 := blk_free HSZ.out 7
          have f8 := blk_free HSZ.out 8
          have f9 := blk_free HSZ.out 9
          have zq := lt_of_block HSZ.out
          simp only [List.getElem?_toArray, List.getElem?_cons_zero, List.getElem?_cons_succ] at q4 q5 q6 q7 q8 q9
          change w2.cell? ⟨S9, R0.length * 5, none⟩ = _ at c0
          clear hxr hr
          go_upto_region 15 with fail
          have hz2 : ((((((w2.setCell ⟨g.Q, 4, none⟩ (.int .i64 x.num)).setCell ⟨g.Q, 5, none⟩ (.int .i64 x.den)).setCell ⟨g.Q, 6, none⟩ (.slice x.A x.k x.c)).setCell ⟨g.Q, 7, none⟩ (.int .i64 x.cost)).setCell ⟨g.Q, 8, none⟩ (.int .i64 x.done)).setCell ⟨g.Q, 9, none⟩ (.bool true)).heap[g.Q]? = some (.cells #[.pointer (some ⟨g.P, 0, none⟩), .int .i64 g.f, .int .i64 g.F.tt, .slice g.AW g.F.ws.length g.cW, .int .i64 x.num, .int .i64 x.den, .slice x.A x.k x.c, .int .i64 x.cost, .int .i64 x.done, .bool true] 89 (0, 0)) := blk_set (blk_set (blk_set (blk_set (blk_set (blk_set HSZ.out 4 _) 5 _) 6 _) 7 _) 8 _) 9 _
          have hof2 : Off (fun x => x = g.Q) wr ((((((w2.setCell ⟨g.Q, 4, none⟩ (.int .i64 x.num)).setCell ⟨g.Q, 5, none⟩ (.int .i64 x.den)).setCell ⟨g.Q, 6, none⟩ (.slice x.A x.k x.c)).setCell ⟨g.Q, 7, none⟩ (.int .i64 x.cost)).setCell ⟨g.Q, 8, none⟩ (.int .i64 x.done)).setCell ⟨g.Q, 9, none⟩ (.bool true)) := ((((((Off.set_ (D := fun x => x = g.Q) (Off.of HB2.out) (p := ⟨g.Q, 4, none⟩) rfl _).set_ (p := ⟨g.Q, 5, none⟩) rfl _).set_ (p := ⟨g.Q, 6, none⟩) rfl _).set_ (p := ⟨g.Q, 7, none⟩) rfl _).set_ (p := ⟨g.Q, 8, none⟩) rfl _).set_ (p := ⟨g.Q, 9, none⟩) rfl _)
          have hne := HTO2.out.ne_ HSZ.out (by decide)
          have hto : Own ((((((w2.setCell ⟨g.Q, 4, none⟩ (.int .i64 x.num)).setCell ⟨g.Q, 5, none⟩ (.int .i64 x.den)).setCell ⟨g.Q, 6, none⟩ (.slice x.A x.k x.c)).setCell ⟨g.Q, 7, none⟩ (.int .i64 x.cost)).setCell ⟨g.Q, 8, none⟩ (.int .i64 x.done)).setCell ⟨g.Q, 9, none⟩ (.bool true)) b0 3 1 ci (.slice x.A x.k x.c) x.path := ((((((HTO2.out.mono HEU.out.sv.size).setCell hne _).setCell hne _).setCell hne _).setCell hne _).setCell hne _).setCell hne _
          have HTN : Hid (∀ y, ob x.A = some y → D1 i y ∨ wr.heap.size ≤ y) := Lib.hid (fun y e => .inr (HTO2.out.base_ y ((ob_ ..).trans e)).1)
          clear hne c0 c1 c2 c3 c4 q4 q5 q6 q7 q8 q9 f4 f5 f6 f7 f8 f9 zq HSZ HRC HTO2 HB2 hxm
          generalize (((((w2.setCell ⟨g.Q, 4, none⟩ (.int .i64 x.num)).setCell ⟨g.Q, 5, none⟩ (.int .i64 x.den)).setCell ⟨g.Q, 6, none⟩ (.slice x.A x.k x.c)).setCell ⟨g.Q, 7, none⟩ (.int .i64 x.cost)).setCell ⟨g.Q, 8, none⟩ (.int .i64 x.done)).setCell ⟨g.Q, 9, none⟩ (.bool true) = w2b at hz2 hof2 hto ⊢
          have HSZ2 := Lib.hid hz2
          have HOF2 := Lib.hid hof2
          have HTO := Lib.hid hto
          have ks := search_slot HEU.out.sv HSL.out rfl (HEU.out.sv.out i hk6) HOF2.out x true
          unfold askV at ks
          have KS := Lib.hid ks
          clear ks hz2 hof2 hto
          have q1 := blk_cell HSZ2.out 1
          have q2 := blk_cell HSZ2.out 2
          have q3 := blk_cell HSZ2.out 3
          have q4 := blk_cell HSZ2.out 4
          have q5 := blk_cell HSZ2.out 5
          have q6 := blk_cell HSZ2.out 6
          have q7 := blk_cell HSZ2.out 7
          have q8 := blk_cell HSZ2.out 8
          have q9 := blk_cell HSZ2.out 9
          have zq := lt_of_block HSZ2.out
          simp only [List.getElem?_toArray, List.getElem?_cons_zero, List.getElem?_cons_succ] at q1 q2 q3 q4 q5 q6 q7 q8 q9
          go_wp2_with fail
          refine KS.out.mono ?_
          rintro e w3 ⟨P, b, FF, Y, s, rfl, e1, e2, e3, e4, e5, fo, po, hbl, sr, hb3⟩
          have hz3 := blk_below HSZ2.out hb3 (lt_of_block HSZ2.out)
          have hredo := SL.redo HSL.out HEU.out.sv.size HOF2.out hb3 e1 e2 e3 e4 e5 fo po hbl sr HSZ2.out HTO.out HTK.out HTN.out
          have HE3 := Lib.hid (HEU.out.take hk6 HG.out (g' := ⟨g.Q, P, b, FF, Y, s, g.f, 0, g.AW, g.cW, x, true⟩) ⟨rfl, e2, e5, rfl, .inr ⟨R0, r, HR.out, HTE.out, rfl⟩⟩ rfl hredo.1 hredo.2)
          have q0 := blk_cell hz3 0
          have f0 := blk_free hz3 0
          have zq := lt_of_block hz3
          simp only [List.getElem?_toArray, List.getElem?_cons_zero, List.getElem?_cons_succ] at q0
          clear hredo hz3 hb3 sr fo po hbl e1 e2 e3 e4 e5 KS HSZ2 HOF2 HTO HTK HTN HEU HSL
          go_wp2
          go_roundw
          case rel => exact ⟨i + 1, _, _, _, by go_num, hk6, HE3⟩
          case measure => simp [intOf]; omega
    · obtain rfl : i = 6 := by omega
      have HFIN := Lib.hid HEU.out.end_
      clear HEU
      go_wp2
      go_ret
      exact HFIN.out

end
end Go.Proofs.Ytpoolpaagbeokaa.Serve

namespace Go.Proofs.Ytpoolpaagbeokaa.Serve
open Go.RowKit Go.Proofs.Ytpoolpaagbeokaa NetLaw BellLaw StarLaw AraLaw Go.Proofs.Ytpoolpaagbeokaa.Net Go.Proofs.Ytpoolpaagbeokaa.Std Go.Proofs.Ytpoolpaagbeokaa.Flow Go.Proofs.Ytpoolpaagbeokaa.Ara Go.Proofs.Ytpoolpaagbeokaa.GroundLaw
open Go.Proofs.Ytpoolpaagbeokaa.GridLaw hiding E
open Go.Proofs.Ytpoolpaagbeokaa.ServeLaw
set_option linter.unusedSimpArgs false
set_option linter.unusedVariables false
theorem sl_pair {w : World} {B : Nat} {A : Option Addr} {l : List (Int × Int)} (h : Sl w B 2 cp A l) {k : Nat} (hk : k < l.length) :
    ∃ b off f t, A = some ⟨b, off, none⟩ ∧ b < B ∧ l[k] = (f, t) ∧ w.cell? ⟨b, off + k * 2, none⟩ = some (.int .i64 f) ∧ w.cell? ⟨b, off + k * 2 + 1, none⟩ = some (.int .i64 t) := by
  obtain ⟨b, off, hA, hlt, hc⟩ := h (by omega)
  exact ⟨b, off, _, _, hA, hlt, rfl, hc k hk 0 (by omega), hc k hk 1 (by omega)⟩
/-- a request of weight one on the small ground -/
theorem ask_s {b0 : Nat} {w : World} {Z : Nat} {A : Option Addr} {c : Nat} (h : SV b0 w Z 2 1 A c [1, 2] 0 (fun _ => none) (fun _ _ => False)) (S : Nat) (hs : Sl w w.heap.size 2 cp (some ⟨S, 0, none⟩) [(1, 1)]) :
    Calls Try.prog 11 #[.pointer (some ⟨Z, 0, none⟩), .int .i64 0, .int .i64 1, .slice (some ⟨S, 0, none⟩) 1 1] w fun e w' => ∃ g D', e = .returned (.tuple #[.int .i64 0, .int .i64 0]) ∧ SV b0 w' Z 2 1 A c [1, 2] 0 (upd1 (fun _ => none) 0 (some g)) (upd1 (fun _ _ => False) 0 D') ∧ Off (fun x => x = Z) w w' ∧ g.f = 0 ∧ g.F.tt = 1 ∧ g.F.ws = [(1, 1)] ∧ g.k = 0 := by
  have key := ask_yes h 0 1 (some ⟨S, 0, none⟩) 1 [(1, 1)] hs (fun e => by cases e) (by decide) (by decide) (by decide) (by decide) 0 (by decide) (fun _ => rfl) (fun j hj => by omega)
  refine Calls.mono key ?_
  rintro e w' (⟨h6, _⟩ | ⟨_, g, D', e1, e2, e3, e4, e5, e6, e7, _⟩)
  · cases h6
  · exact ⟨g, D', e1, e2, e3, e4, e5, e6, e7⟩
theorem all_s : allM 2 1 [1, 2] 2 = [(0, 1, 15), (1, 0, 15)] := by decide +kernel
def ls : List E := [(0, 1, 15), (1, 0, 15)]
def ts1 : AS := ⟨[0, 15], [-1, 0], [true, false], up (up (up (fun _ => false) 0 true) 0 false) 1 true, fun _ => false, 1, []⟩
def ts2 : AS := told [(1, 1)] ([0, 1], 15) ts1
theorem op_ts1 {v : Int} (h : AraLaw.Op 2 ts1 v) : v = 1 := by
  obtain ⟨⟨h0, h2⟩, h3⟩ := h
  have : v = 0 ∨ v = 1 := by omega
  rcases this with rfl | rfl
  · revert h3; decide
  · rfl
theorem nx_ts1 : NxA 2 (1, 1) [0, 0] ts1 1 := ⟨⟨⟨by decide, by decide⟩, by decide⟩, fun u hu => by rw [op_ts1 hu]; exact lt3_self _⟩
theorem exp_ts : expand ls [0, 0] 0 t0 = ts1 := rfl
theorem best_ts : BestA 2 1 ls ts1 ([0, 1], 15) := .inr ⟨by decide, [1, 0], Ch.more (by decide) (Ch.last rfl), rfl⟩
theorem run_s0 : Rn 2 1 ls [0, 0] [(1, 1)] 0 0 t0 := Rn.start (by
  show Stl 2 1 ls [0, 0] [(1, 1)] (init 2 [0, 0] 0) t0
  rw [init_t]
  exact Stl.wait (by decide) ⟨0, nx_t0, .inl rfl⟩)
theorem run_s2 : Rn 2 1 ls [0, 0] [(1, 1)] 0 1 ts2 := Rn.step run_s0 (by decide) nx_t0 (by
  rw [exp_ts]
  exact Stl.last rfl (.inr ⟨1, nx_ts1, by decide, by decide⟩) best_ts)
/-- on the small ground a request takes one step -/
theorem ov_s {k : Nat} : Ov 2 1 (allM 2 1 [1, 2] 2) [(1, 1)] 0 k ↔ k = 1 := by
  have hz : zs 2 = [0, 0] := rfl
  unfold Ov
  rw [all_s, hz]
  constructor
  · rintro ⟨s, h1, h2⟩
    exact (h1.one run_s2 h2 rfl).1
  · rintro rfl
    exact ⟨ts2, run_s2, rfl⟩
end Go.Proofs.Ytpoolpaagbeokaa.Serve

namespace Go.Proofs.Ytpoolpaagbeokaa.Serve
open Go.RowKit Go.Proofs.Ytpoolpaagbeokaa NetLaw BellLaw StarLaw AraLaw Go.Proofs.Ytpoolpaagbeokaa.Net Go.Proofs.Ytpoolpaagbeokaa.Std Go.Proofs.Ytpoolpaagbeokaa.Flow Go.Proofs.Ytpoolpaagbeokaa.Ara Go.Proofs.Ytpoolpaagbeokaa.GroundLaw
open Go.Proofs.Ytpoolpaagbeokaa.GridLaw hiding E
open Go.Proofs.Ytpoolpaagbeokaa.ServeLaw
set_option linter.unusedSimpArgs false
set_option linter.unusedVariables false
section
variable {b0 : Nat} {w w' : World} {Z : Nat} {W H : Int} {AC : Option Addr} {cC : Nat} {l : List Int} {turn : Nat} {σ : Nat → Option Slt} {D : Nat → Nat → Prop}
theorem SV.loE (h : SV b0 w Z W H AC cC l turn σ D) (ho : Off (fun g => g = Z ∨ ob AC = some g ∨ DS D g) w w') : Below b0 w w' :=
  ho.below h.size (fun g hg => by
    rcases hg with e | e | ⟨i, hi, hd⟩
    · rw [e]; exact h.zl
    · exact (h.cells.base_ g ((ob_ ..).trans e)).1
    · exact (h.dom i hi g hd).1)
theorem edit_any (h : SV b0 w Z W H AC cC l turn σ D) (x y : Int) (y0 : 0 ≤ y) (y9 : y ≤ 9) {g : Slt} (hg : σ 0 = some g) :
    Calls Try.prog 23 #[.pointer (some ⟨Z, 0, none⟩), .int .i64 x, .int .i64 y] w fun e w' => ∃ (r : Int) (l' : List Int) (t' : Nat) (σ' : Nat → Option Slt) (D' : Nat → Nat → Prop), e = .returned (.int .i64 r) ∧ SV b0 w' Z W H AC cC l' t' σ' D' ∧ l'.length = l.length ∧ (∃ g', σ' 0 = some g' ∧ g'.f = g.f ∧ g'.F.tt = g.F.tt) ∧ Off (fun g => g = Z ∨ ob AC = some g ∨ DS D g) w w' := by
  by_cases hx : 0 ≤ x ∧ x < l.length
  · obtain ⟨k, rfl⟩ := Int.eq_ofNat_of_zero_le hx.1
    have hk : k < l.length := by omega
    by_cases he : l.getD k 0 = y
    · refine (edit_same h k hk y y0 y9 he).mono ?_
      rintro e w' ⟨rfl, hb⟩
      exact ⟨0, l, turn, σ, D, rfl, h.keep hb, rfl, ⟨g, hg, rfl, rfl⟩, Off.of hb⟩
    · refine (edit_yes h k hk y y0 y9 he).mono ?_
      rintro e w' ⟨rfl, σ', D', sv, ed, of, _⟩
      refine ⟨0, _, turn, σ', D', rfl, sv, List.length_set, ?_, of⟩
      rcases ed 0 with ⟨e1, _⟩ | ⟨g1, g', e1, e2, h1, _⟩
      · rw [hg] at e1; cases e1
      · rw [hg] at e1
        injection e1 with e1
        subst e1
        have h2 := h1 (by decide)
        exact ⟨g', e2, h2.f, h2.t⟩
  · refine (edit_bad h x y (by omega)).mono ?_
    rintro e w' ⟨rfl, hb⟩
    exact ⟨_, l, turn, σ, D, rfl, h.keep hb, rfl, ⟨g, hg, rfl, rfl⟩, Off.of hb⟩
end
end Go.Proofs.Ytpoolpaagbeokaa.Serve

namespace Go.Proofs.Ytpoolpaagbeokaa.Serve
open Go.RowKit Go.Proofs.Ytpoolpaagbeokaa NetLaw BellLaw StarLaw AraLaw Go.Proofs.Ytpoolpaagbeokaa.Net Go.Proofs.Ytpoolpaagbeokaa.Std Go.Proofs.Ytpoolpaagbeokaa.Flow Go.Proofs.Ytpoolpaagbeokaa.Ara Go.Proofs.Ytpoolpaagbeokaa.GroundLaw
open Go.Proofs.Ytpoolpaagbeokaa.GridLaw hiding E
open Go.Proofs.Ytpoolpaagbeokaa.ServeLaw
set_option linter.unusedSimpArgs false
set_option linter.unusedVariables false
/-- requests that were taken, in their order -/
structure Reqs (σ : Nat → Option Slt) (k : Nat) (R : List E) : Prop where
  len : R.length = k
  som : ∀ m, m < k → ∃ g, σ m = some g ∧ R[m]? = some ((m : Int), (g.f : Int), (g.F.tt : Int))
  non : ∀ m, k ≤ m → σ m = none
theorem Reqs.start : Reqs (fun _ => none) 0 [] := ⟨rfl, fun m hm => by omega, fun _ _ => rfl⟩
theorem Reqs.add {σ : Nat → Option Slt} {k : Nat} {R : List E} (h : Reqs σ k R) (g : Slt) : Reqs (upd1 σ k (some g)) (k + 1) (R ++ [((k : Int), (g.f : Int), (g.F.tt : Int))]) := by
  refine ⟨by rw [List.length_append, h.len]; rfl, fun m hm => ?_, fun m hm => by rw [upd1_ne _ _ (by omega)]; exact h.non m (by omega)⟩
  by_cases e : m = k
  · subst e
    refine ⟨g, upd1_eq .., ?_⟩
    rw [List.getElem?_append_right (by rw [h.len]; exact Nat.le_refl _), h.len, Nat.sub_self]
    rfl
  · obtain ⟨g0, h1, h2⟩ := h.som m (by omega)
    refine ⟨g0, by rw [upd1_ne _ _ e]; exact h1, ?_⟩
    rw [List.getElem?_append_left (by rw [h.len]; omega)]
    exact h2
theorem Reqs.went {σ σ' : Nat → Option Slt} {k : Nat} {R : List E} (h : Reqs σ k R) (hw : Went σ σ') : Reqs σ' k R :=
  ⟨h.len, fun m hm => by
    obtain ⟨g, h1, h2⟩ := h.som m hm
    obtain ⟨Y, s, k', e⟩ := hw.get h1
    exact ⟨_, e, h2⟩, fun m hm => hw.none_ (h.non m hm)⟩
/-- on the small ground a frame takes the one step -/
theorem frame_s {g : Slt} (gf : g.f = 0) (gt : g.F.tt = 1) (gw : g.F.ws = [(1, 1)]) (gk : g.k = 0) {u t' : Nat} {c' : Nat → Nat} (hr : Run (Tk 2 (allM 2 1 [1, 2] 2) (upd1 (fun _ => none) 0 (some g))) 0 (cnt (upd1 (fun _ => none) 0 (some g))) u t' c') (hs : u < 9 → Stuck (Tk 2 (allM 2 1 [1, 2] 2) (upd1 (fun _ => none) 0 (some g))) c') : u = 1 := by
  have hT : ∀ i k, Tk 2 (allM 2 1 [1, 2] 2) (upd1 (fun _ => none) 0 (some g)) i k = true ↔ i = 0 ∧ k ≠ 1 := by
    intro i k
    by_cases e : i = 0
    · subst e
      rw [tk_some (upd1_eq ..), gt, gw, gf, ov_s]
      exact ⟨fun h => ⟨rfl, h⟩, fun h => h.2⟩
    · rw [tk_none (by rw [upd1_ne _ _ e])]
      exact ⟨fun h => (nomatch h), fun h => absurd h.1 e⟩
  have h0 : cnt (upd1 (fun _ => none) 0 (some g)) 0 = 0 := by unfold cnt; rw [upd1_eq]; exact gk
  have key : u ≤ 1 ∧ c' 0 = u := by
    clear hs
    induction hr with
    | zero => exact ⟨by decide, h0⟩
    | @step n t1 d c1 hr hf ih =>
      obtain ⟨h1, h2⟩ := ih
      obtain ⟨a1, a2⟩ := (hT _ _).1 hf.yes
      rw [a1] at a2 ⊢
      unfold bump
      rw [if_pos rfl]
      omega
  rcases Nat.eq_zero_or_pos u with e | e
  · have h1 := hs (by omega) 0 (by decide)
    have h2 := (hT 0 (c' 0)).2 ⟨rfl, by omega⟩
    rw [h1] at h2
    cases h2
  · omega
section
variable {b0 : Nat} {w w' : World} {Z : Nat} {W H : Int} {AC : Option Addr} {cC : Nat} {l : List Int} {turn : Nat} {σ : Nat → Option Slt} {D : Nat → Nat → Prop}
theorem SV.off (h : SV b0 w Z W H AC cC l turn σ D) {D2 : Nat → Prop} (ho : Off D2 w w') (hZ : ¬ D2 Z) (hC : ∀ x, ob AC = some x → ¬ D2 x) (hd : ∀ i, i < 6 → ∀ x, D i x → ¬ D2 x) : SV b0 w' Z W H AC cC l turn σ D :=
  ⟨blk_off h.z ho hZ, h.zl, own_off h.cells ho hC, h.good, h.tl, fun i hi g e => (h.slot i hi g e).off ho (hd i hi), h.sepD, h.out, fun i hi x hx => ⟨(h.dom i hi x hx).1, Nat.lt_of_lt_of_le (h.dom i hi x hx).2 ho.size⟩⟩
theorem Off.grown {row : Option Nat} (h : w.grownBy w' row) : Off (fun x => row = some x) w w' := ⟨h.os, h.tape, h.output, h.size, fun g hg hn => h.block g hg (fun e => hn e.symm)⟩
theorem SV.Zlt (h : SV b0 w Z W H AC cC l turn σ D) : Z < w.heap.size := h.zs.2.2.2.2.2
/-- a search that is over took no more than 512 steps -/
theorem SL.k512 {n : Nat} {m : List E} {Dk : Nat → Prop} {g : Slt} (h : SL b0 w n m Dk g) (ho : g.s.rds.length = g.F.ws.length) : g.k ≤ 512 := by
  obtain ⟨e1, e2, e3⟩ := h.net
  obtain ⟨⟨w1, w8⟩, _⟩ := wcode_ok h.wc
  have hld := h.sr.run.lastD w1 ho
  obtain ⟨V, _, _, hRI⟩ := h.sr.si h.fo h.po
  have hn : g.F.n ≤ 64 := by have := h.fo.gd.hi; omega
  have h1 := hRI.ld
  have h2 : g.s.rds.length ≤ 8 := by omega
  have h4 : (g.F.n : Int) * g.s.rds.length ≤ 64 * 8 := Int.mul_le_mul (by omega) (by omega) (by omega) (by omega)
  omega
/-- where none has a step to take, all are over -/
theorem SV.stuck_over {σ0 : Nat → Option Slt} (h : SV b0 w Z W H AC cC l turn σ D) (wt : Went σ0 σ) (hs : Stuck (Tk l.length (allM W H l l.length) σ0) (cnt σ)) : ∀ i, i < 6 → ∀ g, σ i = some g → g.s.rds.length = g.F.ws.length := fun i hi g hg => by
  have h1 := hs i hi
  rw [← wt.tk] at h1
  have h2 := h.tk hi hg
  rw [h1] at h2
  by_cases e : g.s.rds.length = g.F.ws.length
  · exact e
  · have := h2.2 e; cases this
/-- all requests over: no more than 3072 steps in all -/
theorem SV.sum_over (h : SV b0 w Z W H AC cC l turn σ D) (ho : ∀ i, i < 6 → ∀ g, σ i = some g → g.s.rds.length = g.F.ws.length) {T : Sch} {t0 n : Nat} {c : Nat → Nat} (hr : Run T t0 c n turn (cnt σ)) : n ≤ 3072 := hr.le (m := 512) (fun i hi => by
  unfold cnt
  cases hg : σ i with
  | none => exact Nat.zero_le _
  | some g => exact (h.slot i hi g hg).k512 (ho i hi g hg))
/-- a slot that is over was told a round -/
theorem SL.last_ {n : Nat} {m : List E} {Dk : Nat → Prop} {g : Slt} (h : SL b0 w n m Dk g) (ho : g.s.rds.length = g.F.ws.length) : ∃ R0 r, g.s.rds = R0 ++ [r] := by
  obtain ⟨⟨w1, _⟩, _⟩ := wcode_ok h.wc
  rcases List.eq_nil_or_concat g.s.rds with hr | ⟨R0, r, hr⟩
  · rw [hr] at ho; simp at ho; omega
  · exact ⟨R0, r, by rw [hr, List.concat_eq_append]⟩
end
end Go.Proofs.Ytpoolpaagbeokaa.Serve

namespace Go.Proofs.Ytpoolpaagbeokaa.Serve
open Go.RowKit Go.Proofs.Ytpoolpaagbeokaa NetLaw BellLaw StarLaw AraLaw Go.Proofs.Ytpoolpaagbeokaa.Net Go.Proofs.Ytpoolpaagbeokaa.Std Go.Proofs.Ytpoolpaagbeokaa.Flow Go.Proofs.Ytpoolpaagbeokaa.Ara Go.Proofs.Ytpoolpaagbeokaa.GroundLaw
open Go.Proofs.Ytpoolpaagbeokaa.GridLaw hiding E
open Go.Proofs.Ytpoolpaagbeokaa.ServeLaw
set_option linter.unusedSimpArgs false
set_option linter.unusedVariables false
/-- a service's blocks -/
def SB (Z : Nat) (AC : Option Addr) (D : Nat → Nat → Prop) : Nat → Prop := fun x => x = Z ∨ ob AC = some x ∨ DS D x
section
variable {b0 : Nat} {w w' : World} {Z : Nat} {W H : Int} {AC : Option Addr} {cC : Nat} {l : List Int} {turn : Nat} {σ : Nat → Option Slt} {D : Nat → Nat → Prop}
theorem SV.sb (h : SV b0 w Z W H AC cC l turn σ D) {x : Nat} (hx : SB Z AC D x) : b0 ≤ x ∧ x < w.heap.size := by
  rcases hx with e | e | ⟨i, hi, hd⟩
  · rw [e]; exact ⟨h.zl, h.Zlt⟩
  · exact h.cells.base_ x ((ob_ ..).trans e)
  · exact h.dom i hi x hd
end
/-- two services on one ground -/
structure Duo (b b' : Nat) (w : World) (W H : Int) (l : List Int) (Z : Nat) (A : Option Addr) (c t : Nat) (σ : Nat → Option Slt) (D : Nat → Nat → Prop) (Z' : Nat) (A' : Option Addr) (c' t' : Nat) (σ' : Nat → Option Slt) (D' : Nat → Nat → Prop) : Prop where
  one : SV b w Z W H A c l t σ D
  two : SV b' w Z' W H A' c' l t' σ' D'
  ap : ∀ x, SB Z A D x → ¬ SB Z' A' D' x
section
variable {b b' : Nat} {w w1 : World} {W H : Int} {l : List Int} {Z : Nat} {A : Option Addr} {c t : Nat} {σ : Nat → Option Slt} {D : Nat → Nat → Prop} {Z' : Nat} {A' : Option Addr} {c' t' : Nat} {σ' : Nat → Option Slt} {D' : Nat → Nat → Prop}
theorem Duo.swap (h : Duo b b' w W H l Z A c t σ D Z' A' c' t' σ' D') : Duo b' b w W H l Z' A' c' t' σ' D' Z A c t σ D := ⟨h.two, h.one, fun x hx hx' => h.ap x hx' hx⟩
theorem Duo.keep (h : Duo b b' w W H l Z A c t σ D Z' A' c' t' σ' D') (hb : Below w.heap.size w w1) : Duo b b' w1 W H l Z A c t σ D Z' A' c' t' σ' D' := ⟨h.one.keep hb, h.two.keep hb, h.ap⟩
/-- the one goes on -/
theorem Duo.on (h : Duo b b' w W H l Z A c t σ D Z' A' c' t' σ' D') {t1 : Nat} {σ1 : Nat → Option Slt} {D1 : Nat → Nat → Prop} (h1 : SV b w1 Z W H A c l t1 σ1 D1) (ho : Off (SB Z A D) w w1) (hn : ∀ x, DS D1 x → DS D x ∨ w.heap.size ≤ x) : Duo b b' w1 W H l Z A c t1 σ1 D1 Z' A' c' t' σ' D' :=
  ⟨h1, h.two.off ho (fun hx => h.ap _ hx (.inl rfl)) (fun x e hx => h.ap x hx (.inr (.inl e))) (fun i hi x hd hx => h.ap x hx (.inr (.inr ⟨i, hi, hd⟩))), fun x hx hx' => by
    have hlt := (h.two.sb hx').2
    rcases hx with e | e | hd
    · exact h.ap x (.inl e) hx'
    · exact h.ap x (.inr (.inl e)) hx'
    · rcases hn x hd with e | e
      · exact h.ap x (.inr (.inr e)) hx'
      · omega⟩
end
theorem ds_upd {D : Nat → Nat → Prop} {k : Nat} {D' : Nat → Prop} {m : Nat} (hd : ∀ x, D' x → m ≤ x) : ∀ x, DS (upd1 D k D') x → DS D x ∨ m ≤ x := by
  rintro x ⟨i, hi, h⟩
  by_cases e : i = k
  · subst e; rw [upd1_eq] at h; exact .inr (hd x h)
  · rw [upd1_ne _ _ e] at h; exact .inl ⟨i, hi, h⟩
/-- the same requests, none begun -/
structure Lk (σ σ' : Nat → Option Slt) (k : Nat) : Prop where
  som : ∀ i, i < k → ∃ g g', σ i = some g ∧ σ' i = some g' ∧ g'.f = g.f ∧ g'.F.tt = g.F.tt ∧ g'.F.ws = g.F.ws ∧ g.k = 0 ∧ g'.k = 0 ∧ g.sm = false ∧ g'.sm = false
  non : ∀ i, k ≤ i → σ i = none ∧ σ' i = none
theorem Lk.start : Lk (fun _ => none) (fun _ => none) 0 := ⟨fun i hi => by omega, fun _ _ => ⟨rfl, rfl⟩⟩
theorem Lk.add {σ σ' : Nat → Option Slt} {k : Nat} (h : Lk σ σ' k) {g g' : Slt} (h1 : g'.f = g.f) (h2 : g'.F.tt = g.F.tt) (h3 : g'.F.ws = g.F.ws) (h4 : g.k = 0) (h5 : g'.k = 0) (h6 : g.sm = false) (h7 : g'.sm = false) : Lk (upd1 σ k (some g)) (upd1 σ' k (some g')) (k + 1) := by
  refine ⟨fun i hi => ?_, fun i hi => ?_⟩
  · by_cases e : i = k
    · subst e; exact ⟨g, g', upd1_eq .., upd1_eq .., h1, h2, h3, h4, h5, h6, h7⟩
    · rw [upd1_ne _ _ e, upd1_ne _ _ e]; exact h.som i (by omega)
  · rw [upd1_ne _ _ (by omega), upd1_ne _ _ (by omega)]; exact h.non i (by omega)
theorem Lk.cnt_ {σ σ' : Nat → Option Slt} {k : Nat} (h : Lk σ σ' k) : cnt σ' = cnt σ := by
  funext i
  unfold cnt
  rcases Nat.lt_or_ge i k with hi | hi
  · obtain ⟨g, g', e, e', _, _, _, k1, k2, _⟩ := h.som i hi
    rw [e, e']
    exact k2.trans k1.symm
  · obtain ⟨e, e'⟩ := h.non i hi
    rw [e, e']
theorem Lk.tk_ {σ σ' : Nat → Option Slt} {k : Nat} (h : Lk σ σ' k) (n : Nat) (m : List E) : Tk n m σ' = Tk n m σ := by
  funext i j
  rcases Nat.lt_or_ge i k with hi | hi
  · obtain ⟨g, g', e, e', h1, h2, h3, _⟩ := h.som i hi
    have a := tk_some (n := n) (l := m) (k := j) e
    have a' := tk_some (n := n) (l := m) (k := j) e'
    rw [h1, h2, h3] at a'
    exact Bool.eq_iff_iff.2 (a'.trans a.symm)
  · obtain ⟨e, e'⟩ := h.non i hi
    rw [tk_none e, tk_none e']
/-- behind as many steps each request stands where its like does -/
theorem same_state {b b' : Nat} {w w' : World} {W H : Int} {l : List Int} {Z : Nat} {A : Option Addr} {c t : Nat} {σ σ1 : Nat → Option Slt} {D : Nat → Nat → Prop} {Z' : Nat} {A' : Option Addr} {c' t' : Nat} {σ' σ1' : Nat → Option Slt} {D' : Nat → Nat → Prop} {k : Nat} (h : Lk σ σ' k) (s : SV b w Z W H A c l t σ1 D) (s' : SV b' w' Z' W H A' c' l t' σ1' D') (hw : Went σ σ1) (hw' : Went σ' σ1') (hc : cnt σ1 = cnt σ1') {i : Nat} (hi : i < 6) :
    (σ1 i = none ∧ σ1' i = none) ∨ ∃ g g', σ1 i = some g ∧ σ1' i = some g' ∧ g'.s = g.s ∧ g'.F.ws.length = g.F.ws.length ∧ g.sm = false ∧ g'.sm = false := by
  rcases Nat.lt_or_ge i k with hk | hk
  · obtain ⟨g, g', e, e', h1, h2, h3, _, _, h6, h7⟩ := h.som i hk
    obtain ⟨Y, s1, k1, a⟩ := hw.get e
    obtain ⟨Y', s1', k1', a'⟩ := hw'.get e'
    refine .inr ⟨_, _, a, a', ?_, congrArg List.length h3, h6, h7⟩
    have r := (s.slot i hi _ a).run_
    have r' := (s'.slot i hi _ a').run_
    have hkk : k1 = k1' := by
      have := congrFun hc i
      unfold cnt at this
      rw [a, a'] at this
      exact this
    dsimp only at r r'
    rw [h1, h2, h3, ← hkk] at r'
    exact r'.det r
  · obtain ⟨e, e'⟩ := h.non i hk
    exact .inl ⟨hw.none_ e, hw'.none_ e'⟩
set_option maxRecDepth 100000 in
set_option maxHeartbeats 8000000 in
/-- two answers that are the same -/
theorem same_answer (st : Int) (r : Rnd) (A : Option Addr) (c : Nat) (A' : Option Addr) (c' : Nat) (w : World) (h : Sl w w.heap.size 1 ci A r.path) (h' : Sl w w.heap.size 1 ci A' r.path) (hk : r.path.length ≤ 1000000) :
    Calls Try.prog 15 #[.agg #[.int .i64 st, .int .i64 r.num, .int .i64 r.den, .slice A r.path.length c, .int .i64 r.cost, .int .i64 r.done], .agg #[.int .i64 st, .int .i64 r.num, .int .i64 r.den, .slice A' r.path.length c', .int .i64 r.cost, .int .i64 r.done]] w fun e w' => e = .returned (.bool true) ∧ Below w.heap.size w w' := by
  obtain ⟨w0, hw0⟩ : ∃ w0, w0 = (w.alloc (.cells #[.int .i64 st, .int .i64 r.num, .int .i64 r.den, .slice A r.path.length c, .int .i64 r.cost, .int .i64 r.done] 45)).alloc (.cells #[.int .i64 st, .int .i64 r.num, .int .i64 r.den, .slice A' r.path.length c', .int .i64 r.cost, .int .i64 r.done] 45) := ⟨_, rfl⟩
  have hb0 : Below w.heap.size w w0 := by rw [hw0]; exact ((Below.refl _ _).alloc (Nat.le_refl _) _).alloc (by simp) _
  have key := same_round ⟨r.num, r.den, A, r.path.length, c, r.cost, r.done, r.path⟩ ⟨r.num, r.den, A', r.path.length, c', r.cost, r.done, r.path⟩ w0 ((h.keep hb0 (Nat.le_refl _)).more hb0.size) ((h'.keep hb0 (Nat.le_refl _)).more hb0.size) rfl rfl hk rfl
  unfold rv at key
  dsimp only at key
  have KEY := Lib.hid key
  have HB0 := Lib.hid hb0
  clear key h h' hb0
  generalize r.path.length = m at *
  go_enter Try.func15, Try.ntmps15
  go_wp2_with fail
  rw [← hw0]
  refine KEY.out.mono ?_
  rintro e w1 ⟨rfl, hb1⟩
  have HB1 := Lib.hid (HB0.out.trans (hb1.mono HB0.out.size))
  clear hb1 HB0 KEY hw0
  go_wp2
  go_ret
  exact ⟨rfl, HB1.out⟩
end Go.Proofs.Ytpoolpaagbeokaa.Serve

namespace Go.Proofs.Ytpoolpaagbeokaa.Serve
open Go.RowKit Go.Proofs.Ytpoolpaagbeokaa NetLaw BellLaw StarLaw AraLaw RatioLaw Go.Proofs.Ytpoolpaagbeokaa.Net Go.Proofs.Ytpoolpaagbeokaa.Std Go.Proofs.Ytpoolpaagbeokaa.Flow Go.Proofs.Ytpoolpaagbeokaa.Ara Go.Proofs.Ytpoolpaagbeokaa.GroundLaw
open Go.Proofs.Ytpoolpaagbeokaa.GridLaw hiding E
open Go.Proofs.Ytpoolpaagbeokaa.ServeLaw
open Go.Proofs.Ytpoolpaagbeokaa.StarF (wgt wgt_zero)
set_option linter.unusedSimpArgs false
set_option linter.unusedVariables false
theorem wcode_wgt {ws : List (Int × Int)} (h : wcode ws = 0) : ∀ w ∈ ws, wgt w.1 w.2 = 0 := by
  unfold wcode at h
  split at h
  · exact absurd h (by decide)
  · split at h
    · exact absurd h (by decide)
    · exact wgo_ok ws none h
section
variable {b0 : Nat} {w w' : World} {Z : Nat} {W H : Int} {AC : Option Addr} {cC : Nat} {l : List Int} {turn : Nat} {σ : Nat → Option Slt} {D : Nat → Nat → Prop}
theorem SL.wt_ {n : Nat} {m : List E} {Dk : Nat → Prop} {g : Slt} (h : SL b0 w n m Dk g) {R0 : List Rnd} {r : Rnd} (hr : g.s.rds = R0 ++ [r]) : g.F.ws[R0.length]? = some (r.num, r.den) ∧ Ok r.num r.den ∧ r.path.length ≤ 64 := by
  obtain ⟨V, _, _, hRI⟩ := h.sr.si h.fo h.po
  have hl : R0.length < g.F.ws.length := by have h1 := hRI.len; rw [hr] at h1; simp at h1; omega
  have h1 : (g.s.rds.map (fun r => (r.num, r.den)))[R0.length]? = some (r.num, r.den) := by rw [List.getElem?_map, hr, List.getElem?_append_right (Nat.le_refl _), Nat.sub_self]; rfl
  rw [hRI.wts, hr, List.length_append, List.length_singleton, List.getElem?_take, if_pos (Nat.lt_succ_self _)] at h1
  refine ⟨h1, ?_, (SI.paths (h.sr.si h.fo h.po)).1 r (by rw [hr]; simp)⟩
  exact (wgt_zero.1 (wcode_wgt h.wc _ (List.mem_of_getElem? h1))).1
/-- a frame long enough: all are over -/
theorem frame_over (h : SV b0 w Z W H AC cC l turn σ D) : Calls Try.prog 13 #[.pointer (some ⟨Z, 0, none⟩), .int .i64 10000] w fun e w' => ∃ (u t' : Nat) (σ' : Nat → Option Slt) (D' : Nat → Nat → Prop), e = .returned (.tuple #[.int .i64 u, .int .i64 0]) ∧ SV b0 w' Z W H AC cC l t' σ' D' ∧ Went σ σ' ∧ (∀ i, i < 6 → ∀ g, σ' i = some g → g.s.rds.length = g.F.ws.length) ∧ Off (fun g => g = Z ∨ DS D g) w w' ∧ ∀ g, DS D' g → DS D g ∨ w.heap.size ≤ g := by
  refine (frame_any h 10000 (by decide) (by decide)).mono ?_
  rintro e w' ⟨u, t', σ', D', rfl, sv, wt, rn, le, st, of, nd⟩
  have hu : u ≤ 6006 := sv.sum_le_ rn
  exact ⟨u, t', σ', D', rfl, sv, wt, sv.stuck_over wt (st (by omega)), of, nd⟩
end
set_option maxRecDepth 100000 in
set_option maxHeartbeats 1000000 in
/-- grids of one size: the same where the cells are -/
theorem same_cells (W H : Int) (A A' : Option Addr) (c c' : Nat) (l l' : List Int) (b : Bool) (hb : decide (l = l') = b) (w : World) (hl : Sl w w.heap.size 1 ci A l) (hm : Sl w w.heap.size 1 ci A' l') (hlen : l.length ≤ 1048576) :
    Calls Try.prog 25 #[.agg #[.int .i64 W, .int .i64 H, .slice A l.length c], .agg #[.int .i64 W, .int .i64 H, .slice A' l'.length c']] w fun e w' => e = .returned (.bool b) ∧ Below w.heap.size w w' := by
  have hb0 : Below w.heap.size w ((w.alloc (.cells #[.int .i64 W, .int .i64 H, .slice A l.length c] 24)).alloc (.cells #[.int .i64 W, .int .i64 H, .slice A' l'.length c'] 24)) := ((Below.refl _ _).alloc (Nat.le_refl _) _).alloc (by simp) _
  have key := equal_int' A A' l.length l'.length c c' l l' w.heap.size w.heap.size _ (hl.keep hb0 (Nat.le_refl _)) (hm.keep hb0 (Nat.le_refl _)) rfl rfl (by omega) b hb
  have KEY := Lib.hid key
  clear key hl hm hb
  generalize l.length = n at *
  generalize l'.length = n' at *
  go_enter Try.func25, Try.ntmps25
  go_wp2_with fail
  refine KEY.out.mono ?_
  rintro e w1 ⟨rfl, k, rfl⟩
  have hB1 := below_drewN hb0 k
  clear hb0
  go_wp2
  go_ret
  exact ⟨rfl, hB1⟩
end Go.Proofs.Ytpoolpaagbeokaa.Serve

namespace Go.Proofs.Ytpoolpaagbeokaa.Room
open Go.RowKit Go.Proofs.Ytpoolpaagbeokaa Go.Proofs.Ytpoolpaagbeokaa.Net Go.Proofs.Ytpoolpaagbeokaa.Std
set_option linter.unusedSimpArgs false
set_option linter.unusedVariables false
theorem blk_sets {b : Nat} {t : TypeId} : ∀ (vs : List Value) (o : Nat) (w : World) (cs : Array Value), w.heap[b]? = some (.cells cs t (0, 0)) → o + vs.length ≤ cs.size →
    ∃ cs' : Array Value, (w.setCells b o vs).heap[b]? = some (.cells cs' t (0, 0)) ∧ cs'.size = cs.size ∧ (∀ j, j < o ∨ o + vs.length ≤ j → cs'[j]? = cs[j]?) ∧ ∀ j u, vs[j]? = some u → cs'[o + j]? = some u
  | [], o, w, cs, h, _ => ⟨cs, h, rfl, fun _ _ => rfl, fun j u hu => by simp at hu⟩
  | v :: r, o, w, cs, h, hs => by
    rw [List.length_cons] at hs
    obtain ⟨cs', h1, h2, h3, h4⟩ := blk_sets r (o + 1) (w.setCell ⟨b, o, none⟩ v) (cs.setIfInBounds o v) (blk_set h o v) (by rw [Array.size_setIfInBounds]; omega)
    refine ⟨cs', h1, by rw [h2, Array.size_setIfInBounds], fun j hj => ?_, fun j u hu => ?_⟩
    · rw [List.length_cons] at hj
      rw [h3 j (by omega), Array.getElem?_setIfInBounds_ne (by omega)]
    · match j, hu with
      | 0, hu =>
        simp at hu
        subst hu
        rw [Nat.add_zero, h3 o (by omega), Array.getElem?_setIfInBounds_self_of_lt (by omega)]
      | j + 1, hu =>
        rw [List.getElem?_cons_succ] at hu
        have := h4 j u hu
        rwa [show o + 1 + j = o + (j + 1) by omega] at this
theorem sets_grown (b : Nat) : ∀ (vs : List Value) (o : Nat) (w : World), w.grownBy (w.setCells b o vs) (some b)
  | [], _, w => World.grownBy.refl w _
  | v :: r, o, w => by
    have h := sets_grown b r (o + 1) (w.setCell ⟨b, o, none⟩ v)
    have h0 : w.grownBy (w.setCell ⟨b, o, none⟩ v) (some b) := ⟨rfl, rfl, rfl, by simp [World.setCell], fun k _ hne => Below.heap_setCell _ _ _ _ (fun e => hne (by rw [e]))⟩
    exact h0.trans h
/-- the block behind an own row, and the row that is read in it -/
theorem own_open {α : Type} {w : World} {base : Nat} {e : TypeId} {sz : Nat} {cell : α → Nat → Value} {S n c : Nat} {l : List α} (h : Own w base e sz cell (.slice (some ⟨S, 0, none⟩) n c) l) :
    l.length = n ∧ base ≤ S ∧ n ≤ c ∧ c ≤ maxLen ∧ ∃ cur : Array Value, w.heap[S]? = some (.cells cur e (0, 0)) ∧ cur.size = c * sz ∧ cur.toList.take (n * sz) = fl sz cell l := by
  rcases h.2 with ⟨h1, _⟩ | ⟨g, cap, cur, h1, h2, h3, h4, h5, h6, h7⟩
  · cases h1
  · injection h1 with a b d
    injection a with a
    injection a with a _ _
    subst a d
    rw [← b] at h4 h7
    exact ⟨b.symm, h2, h4, h5, cur, h3, h6, h7⟩
theorem own_sets {α : Type} {w : World} {base : Nat} {e : TypeId} {sz : Nat} {cell : α → Nat → Value} {S n c m : Nat} {l r : List α} (h : Own w base e sz cell (.slice (some ⟨S, 0, none⟩) n c) l) (hm : r.length = m) (hc : n + m ≤ c) :
    Own (w.setCells S (n * sz) (fl sz cell r)) base e sz cell (.slice (some ⟨S, 0, none⟩) (n + m) c) (l ++ r) := by
  obtain ⟨hn, h1, _, h2, cur, h3, h4, h5⟩ := own_open h
  have hle : n * sz + (fl sz cell r).length ≤ cur.size := by
    rw [fl_len, h4, hm, ← Nat.add_mul]
    exact Nat.mul_le_mul_right _ hc
  obtain ⟨cs', k1, k2, k3, k4⟩ := blk_sets (fl sz cell r) (n * sz) w cur h3 hle
  have hlen : (l ++ r).length = n + m := by rw [List.length_append, hn, hm]
  refine ⟨by rw [fl_len], .inr ⟨S, c, cs', by rw [hlen], h1, k1, by omega, h2, by rw [k2, h4], ?_⟩⟩
  rw [hlen, fl_append]
  have hl1 : (fl sz cell l).length = n * sz := by rw [fl_len, hn]
  have hl2 : (fl sz cell r).length = m * sz := by rw [fl_len, hm]
  apply List.ext_getElem?
  intro j
  rw [List.getElem?_take, Array.getElem?_toList, Nat.add_mul]
  by_cases hj : j < n * sz
  · rw [if_pos (by omega), List.getElem?_append_left (by omega), k3 j (.inl hj), ← h5, List.getElem?_take, if_pos hj, Array.getElem?_toList]
  · rw [List.getElem?_append_right (by omega), hl1]
    by_cases hj2 : j < n * sz + m * sz
    · rw [if_pos hj2]
      have hlt : j - n * sz < (fl sz cell r).length := by omega
      have := k4 (j - n * sz) _ (List.getElem?_eq_getElem hlt)
      rw [show n * sz + (j - n * sz) = j by omega] at this
      rw [this, List.getElem?_eq_getElem hlt]
    · rw [if_neg hj2, List.getElem?_eq_none (by omega)]
theorem own_made {w : World} {base cap : Nat} {α : Type} {e : TypeId} {sz : Nat} {cell : α → Nat → Value} {cur : Array Value} (hb : base ≤ w.heap.size) (hm : cap ≤ maxLen) (hs : cur.size = cap * sz) :
    Own (w.alloc (.cells cur e)) base e sz cell (.slice (some ⟨w.heap.size, 0, none⟩) 0 cap) ([] : List α) := World.ownsRow_made w cur cap hb hm hs
/-- 'append(out, xs...)' where there is room -/
theorem wp_pushRoom {α : Type} {P : Program} (w : World) {o : Oper} {a : Act} {K : Act → World → Prop} {Q : Exit → Act → World → Prop} (s x : Operand) (t : TypeId)
    (ho : o.op = .call { callee := .builtin .append, args := #[s, x], argTypes := #[t, t] })
    (base : Nat) (e : TypeId) (i : TypeInfo) (sz : Nat) (cell : α → Nat → Value) (ht : P.underlying t = some (.slice e)) (hi : P.info? e = some i) (hsize : i.size = sz) (hsz : 0 < sz)
    (S n c : Nat) (l : List α) (hs : a.eval s = .slice (some ⟨S, 0, none⟩) n c) (hown : Own w base e sz cell (.slice (some ⟨S, 0, none⟩) n c) l)
    (B : Nat) (A : Option Addr) (m cx : Nat) (r : List α) (hm : r.length = m) (hx : a.eval x = .slice A m cx) (hA : A = none → m = 0 ∧ cx = 0) (hr : Sl w B sz cell A r) (h1 : ∀ y j, (cell y j).oneCell' = true) (hroom : n + m ≤ c)
    (h : ∀ w', Own w' base e sz cell (.slice (some ⟨S, 0, none⟩) (n + m) c) (l ++ r) → w.grownBy w' (some S) → K (a.put o.dst (.slice (some ⟨S, 0, none⟩) (n + m) c)) w') : o.wp P a w K Q := by
  subst hm
  obtain ⟨hn, k1, _, k2, cur, k3, k4, k5⟩ := own_open hown
  match A, hA with
  | none, hA =>
    obtain ⟨h0, rfl⟩ := hA rfl
    have hr0 : r = [] := List.eq_nil_of_length_eq_zero h0
    subst hr0
    subst hn
    have hr := run_append_owned_none (P := P) (w := w) base t o.type e i sz ht hi _ l.length (fl sz cell l) hown
    unfold Oper.wp execOp
    simp only [ho, resolve, invoke, builtin, Sem.run_bind, Sem.run_pure, Result.andThen_ok, List.map_toArray, List.map_cons, List.map_nil, hs, hx, List.length_nil, hr]
    exact h w (by rw [List.append_nil]; exact hown) (World.grownBy.refl w _)
  | some ad, _ =>
    have q1 : ∀ j u, (fl sz cell r)[j]? = some u → w.cell? (ad.add j) = some u := by
      intro j u hj
      obtain ⟨hi', rfl⟩ := fl_some hsz hj
      obtain ⟨b, off, hA', _, hc⟩ := hr (Nat.lt_of_le_of_lt (Nat.zero_le _) hi')
      injection hA' with hA'
      subst hA'
      rw [Go.WideShapes.add_plain]
      have := hc (j / sz) hi' (j % sz) (divmod hsz).2
      rw [← (divmod (j := j) hsz).1] at this
      exact this
    have hsrc : Src P i.size t (.slice (some ad) r.length cx) r.length (fl sz cell r) w :=
      Src.ofSlice w ht ad r.length cx _ (by rw [fl_len, hsize]) q1 (fl_mem h1)
    have hr := run_append_room_src (P := P) w t t o.type e i ht hi S 0 n c _ r.length (fl sz cell r) hsrc hroom (fun j hj => by
      rw [fl_len] at hj
      have : (n + r.length) * sz ≤ c * sz := Nat.mul_le_mul_right _ hroom
      rw [Nat.add_mul] at this
      rw [hsize, blk_cell k3, Array.getElem?_eq_getElem (by omega)]; rfl) (fun j hj => blk_free k3 _)
    unfold Oper.wp execOp
    simp only [ho, resolve, invoke, builtin, Sem.run_bind, Sem.run_pure, Result.andThen_ok, List.map_toArray, List.map_cons, List.map_nil, hs, hx, hr]
    rw [hsize, Nat.zero_add]
    exact h _ (own_sets hown rfl hroom) (sets_grown _ _ _ _)
theorem wpList_pushRoom {α : Type} {P : Program} (w : World) {ops : Array Oper} {rest : List Oper} {o : Oper} {a : Act} {Q : Exit → Act → World → Prop} (hgd : o.guard = none) (s x : Operand) (t : TypeId)
    (ho : o.op = .call { callee := .builtin .append, args := #[s, x], argTypes := #[t, t] })
    (base : Nat) (e : TypeId) (i : TypeInfo) (sz : Nat) (cell : α → Nat → Value) (ht : P.underlying t = some (.slice e)) (hi : P.info? e = some i) (hsize : i.size = sz) (hsz : 0 < sz)
    (S n c : Nat) (l : List α) (hs : a.eval s = .slice (some ⟨S, 0, none⟩) n c) (hown : Own w base e sz cell (.slice (some ⟨S, 0, none⟩) n c) l)
    (B : Nat) (A : Option Addr) (m cx : Nat) (r : List α) (hm : r.length = m) (hx : a.eval x = .slice A m cx) (hA : A = none → m = 0 ∧ cx = 0) (hr : Sl w B sz cell A r) (h1 : ∀ y j, (cell y j).oneCell' = true) (hroom : n + m ≤ c)
    (h : ∀ w', Own w' base e sz cell (.slice (some ⟨S, 0, none⟩) (n + m) c) (l ++ r) → w.grownBy w' (some S) → wpList P ops Q rest (a.put o.dst (.slice (some ⟨S, 0, none⟩) (n + m) c)) w') : wpList P ops Q (o :: rest) a w :=
  wpList_plain hgd fun _ hK => wp_pushRoom w s x t ho base e i sz cell ht hi hsize hsz S n c l hs hown B A m cx r hm hx hA hr h1 hroom fun w' h2 h3 => hK _ _ (h w' h2 h3)
end Go.Proofs.Ytpoolpaagbeokaa.Room

namespace Go.Proofs.Ytpoolpaagbeokaa.Room
open Go.RowKit Go.Proofs.Ytpoolpaagbeokaa Go.Proofs.Ytpoolpaagbeokaa.Net Go.Proofs.Ytpoolpaagbeokaa.Std
set_option linter.unusedSimpArgs false
set_option linter.unusedVariables false
theorem rep_succ {α : Type} (l : List α) (x : α) (k : Nat) : (l ++ List.replicate k x) ++ [x] = l ++ List.replicate (k + 1) x := by
  rw [List.append_assoc, List.replicate_succ']

set_option maxRecDepth 100000 in
set_option maxHeartbeats 2000000 in
theorem spoil_int (A : Option Addr) (n m c base : Nat) (l : List Int) (x : Int) (w : World) (h : Own w base 3 1 ci (.slice A m c) l) (hnc : n ≤ c) :
    Calls Try.prog 28 #[.slice A n c, .int .i64 x] w fun e w' => e = .returned (.tuple #[]) ∧ w.grownBy w' (Value.slice A m c).ownBlock := by
  rcases h.2 with ⟨h1, _⟩ | ⟨g, cap, cur, h1, _, h3, _, h5, h6, _⟩
  · injection h1 with a _ b
    subst a b
    obtain rfl : n = 0 := by omega
    clear h hnc
    go_enter Try.func28, Try.ntmps28
    go_wp2
    go_loopw [11] (fun i wr => i = .int .i64 0 ∧ wr = w) (fun _ _ => 0)
    case atStart => exact ⟨rfl, rfl⟩
    case round =>
      obtain ⟨rfl, rfl⟩ := hrel
      go_wp2
      refine bodyPost_end (v := .tuple #[]) (by simp [results, Try.results28, go_sem]) rfl ⟨rfl, World.grownBy.refl _ _⟩
  · injection h1 with a _ b
    subst a b
    rw [Nat.mul_one] at h6
    have hb : ∃ cs : Array Value, w.heap[g]? = some (.cells cs 3 (0, 0)) ∧ cs.size = c := ⟨cur, h3, h6⟩
    have hc64 : c ≤ 9223372036854775807 := by unfold maxLen at h5; omega
    have HB := Lib.hid hb
    clear h h3 h6 hb h5
    go_enter Try.func28, Try.ntmps28
    go_wp2
    go_loopw [11] (fun i wr => ∃ k : Nat, k ≤ c ∧ i = .int .i64 k ∧ (∃ cs : Array Value, wr.heap[g]? = some (.cells cs 3 (0, 0)) ∧ cs.size = c) ∧ w.grownBy wr (some g)) (fun i _ => c - (intOf i).toNat)
    case atStart => exact ⟨0, by omega, rfl, HB.out, World.grownBy.refl _ _⟩
    case round =>
      obtain ⟨k, hk, rfl, ⟨cs, hb, hs⟩, hG⟩ := hrel
      by_cases hlt : k < c
      · have hk3 : (k : Int) < c := by omega
        have hcell := blk_cell hb k
        rw [Array.getElem?_eq_getElem (show k < cs.size by omega)] at hcell
        have hfr := blk_free hb k
        generalize cs[k]'(by omega) = y at hcell
        have hst : ∃ cs : Array Value, (wr.setCell ⟨g, k, none⟩ (.int .i64 x)).heap[g]? = some (.cells cs 3 (0, 0)) ∧ cs.size = c := ⟨_, blk_set hb k _, by rw [Array.size_setIfInBounds]; exact hs⟩
        have hg2 := hG.trans (sets_grown g [.int .i64 x] k wr)
        have hb0 := lt_of_block hb
        have HST := Lib.hid hst
        have HG := Lib.hid hg2
        clear hst hg2 hG hb hs
        go_wp2
        go_roundw
        case rel => exact ⟨k + 1, by omega, by go_num, HST.out, HG.out⟩
        case measure => simp [intOf]; omega
      · obtain rfl : k = c := by omega
        clear hb hs
        go_wp2
        refine bodyPost_end (v := .tuple #[]) (by simp [results, Try.results28, go_sem]) rfl ⟨rfl, hG⟩
end Go.Proofs.Ytpoolpaagbeokaa.Room

namespace Go.Proofs.Ytpoolpaagbeokaa.Room
open Go.RowKit Go.Proofs.Ytpoolpaagbeokaa Go.Proofs.Ytpoolpaagbeokaa.Net Go.Proofs.Ytpoolpaagbeokaa.Std
set_option linter.unusedSimpArgs false
set_option linter.unusedVariables false
set_option maxRecDepth 100000 in
set_option maxHeartbeats 4000000 in
theorem spoil_ratio (A : Option Addr) (n m c base : Nat) (l : List (Int × Int)) (w : World) (h : Own w base 39 2 cp (.slice A m c) l) (hnc : n ≤ c) :
    Calls Try.prog 30 #[.slice A n c, .agg #[.int .i64 9, .int .i64 1]] w fun e w' => e = .returned (.tuple #[]) ∧ w.grownBy w' (Value.slice A m c).ownBlock := by
  rcases h.2 with ⟨h1, _⟩ | ⟨g, cap, cur, h1, _, h3, _, h5, h6, _⟩
  · injection h1 with a _ b
    subst a b
    obtain rfl : n = 0 := by omega
    clear h hnc
    go_enter Try.func30, Try.ntmps30
    go_wp2
    go_loopw [11] (fun i wr => i = .int .i64 0 ∧ wr = w.alloc (.cells #[.int .i64 9, .int .i64 1] 39)) (fun _ _ => 0)
    case atStart => exact ⟨rfl, rfl⟩
    case round =>
      obtain ⟨rfl, rfl⟩ := hrel
      go_wp2
      refine bodyPost_end (v := .tuple #[]) (by simp [results, Try.results30, go_sem]) rfl ⟨rfl, World.grownBy_alloc _ _ _⟩
  · injection h1 with a _ b
    subst a b
    have hg0 := lt_of_block h3
    have hb : ∃ cs : Array Value, (w.alloc (.cells #[.int .i64 9, .int .i64 1] 39)).heap[g]? = some (.cells cs 39 (0, 0)) ∧ cs.size = c * 2 := ⟨cur, blk_alloc h3 _, h6⟩
    have hx := heap_alloc_new w (.cells #[.int .i64 9, .int .i64 1] 39)
    have hc64 : c ≤ 9223372036854775807 := by unfold maxLen at h5; omega
    have HB := Lib.hid hb
    have HX := Lib.hid hx
    clear h h3 h6 hb h5 hx
    go_enter Try.func30, Try.ntmps30
    go_wp2
    go_loopw [11] (fun i wr => ∃ k : Nat, k ≤ c ∧ i = .int .i64 k ∧ (∃ cs : Array Value, wr.heap[g]? = some (.cells cs 39 (0, 0)) ∧ cs.size = c * 2) ∧ wr.heap[w.heap.size]? = some (.cells #[.int .i64 9, .int .i64 1] 39 (0, 0)) ∧ w.grownBy wr (some g)) (fun i _ => c - (intOf i).toNat)
    case atStart => exact ⟨0, by omega, rfl, HB.out, HX.out, World.grownBy_alloc _ _ _⟩
    case round =>
      obtain ⟨k, hk, rfl, ⟨cs, hb, hs⟩, hbox, hG⟩ := hrel
      by_cases hlt : k < c
      · have hk3 : (k : Int) < c := by omega
        have x0 := blk_cell hbox 0
        have x1 := blk_cell hbox 1
        simp only [List.getElem?_toArray, List.getElem?_cons_zero, List.getElem?_cons_succ] at x0 x1
        have hcell0 := blk_cell hb (k * 2)
        rw [Array.getElem?_eq_getElem (show k * 2 < cs.size by omega)] at hcell0
        have hfr0 := blk_free hb (k * 2)
        have hcell1 := blk_cell hb (k * 2 + 1)
        rw [Array.getElem?_eq_getElem (show k * 2 + 1 < cs.size by omega)] at hcell1
        have hfr1 := blk_free hb (k * 2 + 1)
        generalize cs[k * 2]'(by omega) = y0 at hcell0
        generalize cs[k * 2 + 1]'(by omega) = y1 at hcell1
        have hst : ∃ cs : Array Value, ((wr.setCell ⟨g, k * 2, none⟩ (.int .i64 9)).setCell ⟨g, k * 2 + 1, none⟩ (.int .i64 1)).heap[g]? = some (.cells cs 39 (0, 0)) ∧ cs.size = c * 2 := ⟨_, (blk_set (blk_set hb _ _) _ _), by simp only [Array.size_setIfInBounds]; exact hs⟩
        have hbx : ((wr.setCell ⟨g, k * 2, none⟩ (.int .i64 9)).setCell ⟨g, k * 2 + 1, none⟩ (.int .i64 1)).heap[w.heap.size]? = some (.cells #[.int .i64 9, .int .i64 1] 39 (0, 0)) := (blk_far (blk_far hbox (by dsimp only; omega) _) (by dsimp only; omega) _)
        have hg2 := hG.trans (sets_grown g [.int .i64 9, .int .i64 1] (k * 2) wr)
        have hb0 := lt_of_block hb
        have hb1 := lt_of_block hbox
        have HST := Lib.hid hst
        have HBX := Lib.hid hbx
        have HG := Lib.hid hg2
        clear hst hg2 hG hb hs hbox hbx
        go_wp2
        go_roundw
        case rel => exact ⟨k + 1, by omega, by go_num, HST.out, HBX.out, HG.out⟩
        case measure => simp [intOf]; omega
      · obtain rfl : k = c := by omega
        clear hb hs hbox
        go_wp2
        refine bodyPost_end (v := .tuple #[]) (by simp [results, Try.results30, go_sem]) rfl ⟨rfl, hG⟩
end Go.Proofs.Ytpoolpaagbeokaa.Room

namespace Go.Proofs.Ytpoolpaagbeokaa.Std
open Go.RowKit Go.Proofs.Ytpoolpaagbeokaa
set_option linter.unusedSimpArgs false
set_option linter.unusedVariables false
theorem infoRatioC : (Try.prog.info? 39).map (fun i => (i.zero, i.size, i.bytes)) = some (some (.agg #[.int .i64 0, .int .i64 0]), 2, 16) := by kernel_rfl
set_option maxHeartbeats 1000000 in
theorem clone_ratio (A : Option Addr) (c : Nat) (l : List (Int × Int)) (B : Nat) (w : World) (hl : Sl w B 2 cp A l) (hB : B ≤ w.heap.size) (hA : A = none → l.length = 0 ∧ c = 0) (hlen : l.length * 16 ≤ 140737488355328) :
    Calls Try.prog 29 #[.slice A l.length c] w fun e w' => SomeClone 39 2 cp l w e w' := by
  have qT : ∀ (w : World) (a : Option Addr) (n c n' c' : Nat), (binOp .eql 26 (.slice a n c) (.slice none n' c')).run Try.prog w = .ok (.bool a.isNone) w := fun w a n c n' c' => Lib.run_eql_slice_nil w 26 39 a n c n' c' Try.underlying26
  match A, hA with
  | none, hA =>
    obtain ⟨h0, rfl⟩ := hA rfl
    have hl0 : l = [] := List.eq_nil_of_length_eq_zero h0
    subst hl0
    go_enter Try.func29, Try.ntmps29
    go_wp2
    go_ret
    exact ⟨none, 0, rfl, Own.nil_, Below.refl _ _⟩
  | some ad, hA =>
    obtain ⟨i0, hi, hz0, hz1, hz2⟩ := info_parts infoRatioC
    have hmade : Own (w.alloc (.cells #[] 39)) w.heap.size 39 2 cp (.slice (some ⟨w.heap.size, 0, none⟩) 0 0) [] := World.ownsRow_made w #[] 0 (Nat.le_refl _) (Nat.zero_le _) rfl
    go_enter Try.func29, Try.ntmps29
    go_wp2_with (at_builtin; refine wpList_pushAll _ rfl (.tmp 5) (.tmp 6) _ rfl w.heap.size 39 i0 _ 2 16 cp Try.underlying26 hi hz0 hz1 hz2 rfl (by decide) _ [] 0 rfl rfl hmade w.heap.size (some ad) _ _ l rfl rfl hA ((hl.more hB).keep ((Below.refl _ _).alloc (Nat.le_refl _) _) (Nat.le_refl _)) one_cp (by omega) (by omega) (by simp) ?_; intro A1 c1 w1 hown1 hgrow1 hat1)
    simp only [Nat.zero_add, List.nil_append] at hown1
    go_ret
    exact ⟨A1, c1, by simp, hown1, ((Below.refl _ _).alloc (Nat.le_refl _) _).grown hgrow1 (by simp) (hmade.lo)⟩
end Go.Proofs.Ytpoolpaagbeokaa.Std
