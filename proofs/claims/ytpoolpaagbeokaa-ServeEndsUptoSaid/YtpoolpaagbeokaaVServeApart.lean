/- The walk of (*serve.Service).Poll: a request that was told something on other ground. -/
/- The walks of fellkeep.walks, fellkeep.times, fellref.SameFound. -/
/- The walk of good: what is told of a request is so on the ground of now. -/
/- The small ground of serve's laws: one request there, one step. -/
/- A service beside other things in memory: what is written elsewhere leaves it. How many steps there are. -/
import Derived.Test.YtpoolpaagbeokaaVServeUse
import Derived.Test.YtpoolpaagbeokaaVWalkCost
import Derived.Test.YtpoolpaagbeokaaVWayUse
import Derived.IntWalk
import Derived.Test.YtpoolpaagbeokaaVDijkTwo
namespace Go.Proofs.Ytpoolpaagbeokaa.Serve
open Go.RowKit Go.Proofs.Ytpoolpaagbeokaa NetLaw BellLaw StarLaw AraLaw Go.Proofs.Ytpoolpaagbeokaa.Net Go.Proofs.Ytpoolpaagbeokaa.Std Go.Proofs.Ytpoolpaagbeokaa.Flow Go.Proofs.Ytpoolpaagbeokaa.Ara Go.Proofs.Ytpoolpaagbeokaa.GroundLaw
open Go.Proofs.Ytpoolpaagbeokaa.GridLaw hiding E
open Go.Proofs.Ytpoolpaagbeokaa.ServeLaw
set_option linter.unusedSimpArgs false
set_option linter.unusedVariables false
section
variable {b0 : Nat} {w w' : World} {Z : Nat} {W H : Int} {AC : Option Addr} {cC : Nat} {l : List Int} {turn : Nat} {σ : Nat → Option Slt} {D : Nat → Nat → Prop}
set_option maxRecDepth 100000 in
set_option maxHeartbeats 8000000 in
/-- a request that was told something on other ground -/
theorem poll_stale (h : SV b0 w Z W H AC cC l turn σ D) {i : Nat} (hi : i < 6) {g : Slt} (hg : σ i = some g) (hr : g.s.rds = []) (hm : g.sm = true) :
    Calls Try.prog 14 #[.pointer (some ⟨Z, 0, none⟩), .int .i64 i] w fun e w' => AnsSays 3 g.T.rnd w e w' := by
  have hw0 : Below w.heap.size w (w.alloc (.cells #[.int .i64 0, .int .i64 0, .int .i64 0, .slice none 0 0, .int .i64 0, .int .i64 0] 45)) := (Below.refl _ _).alloc (Nat.le_refl _) _
  have hbox := heap_alloc_new w (.cells #[.int .i64 0, .int .i64 0, .int .i64 0, .slice none 0 0, .int .i64 0, .int .i64 0] 45)
  have h1 := h.keep hw0
  have SV0 := Lib.hid h1
  have HW0 := Lib.hid hw0
  have HB := Lib.hid hbox
  obtain ⟨a1, _⟩ := h.at_ hi
  rw [hg] at a1
  change w.cell? _ = some (.pointer (some ⟨g.Q, 0, none⟩)) at a1
  obtain ⟨_, _, _, _, _, zp⟩ := h.zs
  have zi : (i : Int) < 6 := by omega
  have hsl := h.slot i hi g hg
  have q0 := blk_cell hsl.z 0
  have zq := lt_of_block hsl.z
  simp only [List.getElem?_toArray, List.getElem?_cons_zero, List.getElem?_cons_succ] at q0
  obtain ⟨hp1, hp2⟩ := SI.paths (hsl.sr.si hsl.fo hsl.po)
  have krd := rounds_any ((h1.slot i hi g hg).sr.sm.am) hp1 (by have := hsl.fo.wl; omega)
  have KRD := Lib.hid krd
  have HG := Lib.hid hg
  have HR := Lib.hid hr
  have HRW := Lib.hid hp2
  have HM := Lib.hid hm
  clear hm h h1 hg hsl krd hr hp1 hp2 hw0 hbox
  go_enter Try.func14, Try.ntmps14
  go_wp2_with fail
  refine KRD.out.mono ?_
  rintro e w2 ⟨A, k, c, R, rfl, hRC, hb2⟩
  obtain ⟨hl1, hl2⟩ := hRC.len
  obtain rfl : k = 0 := by rw [← hl2, HR.out]; rfl
  have SV2 := SV0.out.keep hb2
  have hsl := SV2.slot i hi g HG.out
  have q9 := blk_cell hsl.z 9
  have q4 := blk_cell hsl.z 4
  have q5 := blk_cell hsl.z 5
  have q6 := blk_cell hsl.z 6
  have q7 := blk_cell hsl.z 7
  have q8 := blk_cell hsl.z 8
  have TOLD := Lib.hid hsl.told
  have HK64 := Lib.hid hsl.k64
  have zq2 := lt_of_block hsl.z
  simp only [List.getElem?_toArray, List.getElem?_cons_zero, List.getElem?_cons_succ, HM.out] at q9 q4 q5 q6 q7 q8
  have HW2 := Lib.hid (HW0.out.trans (hb2.mono HW0.out.size))
  have hB := blk_below HB.out hb2 (lt_of_block HB.out)
  have f0 := blk_free hB 0
  have f1 := blk_free hB 1
  have f2 := blk_free hB 2
  have f3 := blk_free hB 3
  have f4 := blk_free hB 4
  have f5 := blk_free hB 5
  have m0 := blk_cell hB 0
  have m1 := blk_cell hB 1
  have m2 := blk_cell hB 2
  have m3 := blk_cell hB 3
  have m4 := blk_cell hB 4
  have m5 := blk_cell hB 5
  have zR := lt_of_block hB
  simp only [List.getElem?_toArray, List.getElem?_cons_zero, List.getElem?_cons_succ] at m0 m1 m2 m3 m4 m5
  have HBR := Lib.hid hB
  clear SV2 hsl hB hRC hb2 SV0 HW0 a1 q0 zq zp KRD hl1 hl2
  go_upto_region 12 with fail
  obtain ⟨i0, hi0, hz0, hz1, hz2⟩ := info_parts infoIntO
  have h23 : Below w2.heap.size w2 (w2.alloc (.cells #[.int .i64 g.T.num, .int .i64 g.T.den, .slice g.T.A g.T.k g.T.c, .int .i64 g.T.cost, .int .i64 g.T.done] 43)) := (Below.refl _ _).alloc (Nat.le_refl _) _
  have hbn := heap_alloc_new w2 (.cells #[.int .i64 g.T.num, .int .i64 g.T.den, .slice g.T.A g.T.k g.T.c, .int .i64 g.T.cost, .int .i64 g.T.done] 43)
  have HT3 := TOLD.out.keep h23
  have hbR3 := blk_alloc HBR.out (.cells #[.int .i64 g.T.num, .int .i64 g.T.den, .slice g.T.A g.T.k g.T.c, .int .i64 g.T.cost, .int .i64 g.T.done] 43)
  have hXR : w.heap.size ≠ w2.heap.size := Nat.ne_of_lt (lt_of_block HBR.out)
  have HW3 := Lib.hid (HW2.out.trans (h23.mono HW2.out.size))
  have hb0k := HG.out
  have hkl := TOLD.out.sl.1
  have hfo : g.T.A = none → g.T.path.length = 0 ∧ g.T.c = 0 := by
    obtain ⟨A9, c9, e9, _, h9⟩ := TOLD.out.form
    injection e9 with e1 e2 e3
    subst e1 e3
    exact h9
  generalize w2.alloc (.cells #[.int .i64 g.T.num, .int .i64 g.T.den, .slice g.T.A g.T.k g.T.c, .int .i64 g.T.cost, .int .i64 g.T.done] 43) = w3 at hbn HT3 HW3 hbR3 ⊢
  have hle3 := HW3.out.size
  generalize hX : w2.heap.size = X at hbn hXR ⊢
  have x1 := blk_cell hbn 2
  have zX := lt_of_block hbn
  have hk6 := HK64.out
  simp only [List.getElem?_toArray, List.getElem?_cons_zero, List.getElem?_cons_succ] at x1
  have hsl3 := HT3.sl.2
  rw [hkl] at x1
  clear q4 q5 q6 q7 q8 q9 f0 f1 f2 f3 f4 f5 m0 m1 m2 m3 m4 m5 zR
  have HX1 := Lib.hid hX
  clear hX
  go_upto_region 13 with (at_builtin; go_must (refine wpList_pushAll _ rfl (.const (.slice none 0 0)) (.tmp 66) _ rfl w3.heap.size 3 i0 (.int .i64 0) 1 8 ci Try.underlying22 hi0 hz0 hz1 hz2 rfl (by decide) _ [] 0 rfl rfl Own.nil_ w3.heap.size g.T.A g.T.path.length g.T.c g.T.path rfl rfl hfo (hsl3.more (by omega)) one_ci (by omega) (by omega) (Nat.le_refl _) ?_; intro A5 c5 w5 hown5 hgrow5 hat5; have hb35 : Below w3.heap.size w3 w5 := (Below.refl _ _).grown hgrow5 (Nat.le_refl _) (fun k hk => by cases hk); have hbn5 := blk_below hbn hb35 zX; have y2 := blk_cell hbn5 2; have yf := blk_free hbn5 2; have zX5 := lt_of_block hbn5))
  simp only [Nat.zero_add, List.nil_append] at hown5
  have hbR5 := blk_below hbR3 hb35 (lt_of_block hbR3)
  have hbn6 := blk_set hbn5 2 (.slice A5 g.T.path.length c5)
  have hbR6 := blk_far hbR5 (p := ⟨X, 2, none⟩) hXR (.slice A5 g.T.path.length c5)
  have own6 := hown5.setCell (p := ⟨X, 2, none⟩) (hown5.ne_ hbn5 (by decide)) (.slice A5 g.T.path.length c5)
  have hb36 : w.heap.size ≤ w3.heap.size := hle3
  have hXw : w.heap.size ≤ X := by rw [← HX1.out]; exact HW2.out.size
  have HW6 := Lib.hid ((HW3.out.trans (hb35.mono HW3.out.size)).setCell (p := ⟨X, 2, none⟩) hXw (.slice A5 g.T.path.length c5))
  clear hbR5 hbR3 hbn5 hbn y2 yf zX5 hown5 hgrow5 hat5 hb35 hsl3 HT3 HW3 x1 zX
  generalize w5.setCell ⟨X, 2, none⟩ (.slice A5 g.T.path.length c5) = w6 at hbn6 hbR6 own6 HW6 ⊢
  have n0 := blk_cell hbn6 0
  have n1 := blk_cell hbn6 1
  have n2 := blk_cell hbn6 2
  have n3 := blk_cell hbn6 3
  have n4 := blk_cell hbn6 4
  have zX6 := lt_of_block hbn6
  have f0 := blk_free hbR6 0
  have f1 := blk_free hbR6 1
  have f2 := blk_free hbR6 2
  have f3 := blk_free hbR6 3
  have f4 := blk_free hbR6 4
  have f5 := blk_free hbR6 5
  have m0 := blk_cell hbR6 0
  have m1 := blk_cell hbR6 1
  have m2 := blk_cell hbR6 2
  have m3 := blk_cell hbR6 3
  have m4 := blk_cell hbR6 4
  have m5 := blk_cell hbR6 5
  have zR := lt_of_block hbR6
  simp only [List.getElem?_toArray, List.getElem?_cons_zero, List.getElem?_cons_succ, List.setIfInBounds_toArray, List.set_cons_zero, List.set_cons_succ] at n0 n1 n2 n3 n4 m0 m1 m2 m3 m4 m5
  have ne1 := own6.ne_ hbR6 (by decide)
  have OWN6 := Lib.hid (own6.mono hb36)
  have NE1 := Lib.hid ne1
  clear hbn6 hbR6 own6 ne1 HBR
  go_wp2
  refine bodyPost_ret (v := .tuple #[.agg #[.int .i64 3, .int .i64 g.T.num, .int .i64 g.T.den, .slice A5 g.T.path.length c5, .int .i64 g.T.cost, .int .i64 g.T.done], .int .i64 0]) (by simp [results, Try.results14, go_sem, m0, m1, m2, m3, m4, m5, f0, f1, f2, f3, f4, f5, n0, n1, n2, n3, n4, zR, zX6]) rfl ?_
  refine ⟨A5, c5, rfl, ?_, ?_⟩
  · exact (((((OWN6.out.setCell NE1.out _).setCell NE1.out _).setCell NE1.out _).setCell NE1.out _).setCell NE1.out _).setCell NE1.out _
  · exact (((((HW6.out.setCell (by dsimp only; omega) _).setCell (by dsimp only; omega) _).setCell (by dsimp only; omega) _).setCell (by dsimp only; omega) _).setCell (by dsimp only; omega) _).setCell (by dsimp only; omega) _
end
end Go.Proofs.Ytpoolpaagbeokaa.Serve

namespace Go.Proofs.Ytpoolpaagbeokaa.StarF
open Go.RowKit Go.Proofs.Ytpoolpaagbeokaa NetLaw BellLaw DijkLaw Go.Proofs.Ytpoolpaagbeokaa.Net Go.Proofs.Ytpoolpaagbeokaa.Std
set_option linter.unusedSimpArgs false
set_option linter.unusedVariables false
/-- a cell of a list, by what stands there -/
theorem at_eq {w : World} {B : Nat} {A : Option Addr} {l : List Int} (h : Sl w B 1 ci A l) {k : Nat} {x : Int} (hx : l[k]? = some x) : ∃ b off, A = some ⟨b, off, none⟩ ∧ b < B ∧ w.cell? ⟨b, off + k, none⟩ = some (.int .i64 x) := by
  obtain ⟨hk, rfl⟩ := List.getElem?_eq_some_iff.1 hx
  exact h.atI hk
set_option maxRecDepth 100000 in
set_option maxHeartbeats 2000000 in
theorem walks_any (N co fr tt : Int) (A : Option Addr) (c : Nat) (l : List E) (A' : Option Addr) (m c' : Nat) (p : List Int) (w : World) (hl : Sl w w.heap.size 3 ce A l) (hp : Sl w w.heap.size 1 ci A' p) (hm : p.length = m) (hlen : l.length ≤ 9223372036854775807) (hlen' : m ≤ 9223372036854775807)
    (hcost : WalkLaw.cost N l p = (co, 0)) (h0 : p.head? = some fr) (h1 : p.getLast? = some tt) :
    Calls Try.prog 47 #[.agg #[.int .i64 N, .slice A l.length c], .agg #[.slice A' m c', .int .i64 co], .int .i64 fr, .int .i64 tt] w fun e w' => e = .returned (.bool true) ∧ Below w.heap.size w w' := by
  obtain ⟨k, rfl⟩ : ∃ k, m = k + 1 := ⟨m - 1, by cases p with | nil => cases h0 | cons a r => simp at hm; omega⟩
  have hk0 : p[0]? = some fr := by rw [← List.head?_eq_getElem?]; exact h0
  have hkk : p[k]? = some tt := by rw [List.getLast?_eq_getElem?, hm, Nat.add_sub_cancel] at h1; exact h1
  have hw0 : Below w.heap.size w ((w.alloc (.cells #[.int .i64 N, .slice A l.length c] 52)).alloc (.cells #[.slice A' (k + 1) c', .int .i64 co] 41)) := ((Below.refl _ _).alloc (Nat.le_refl _) _).alloc (by simp) _
  have hz0 : w.heap.size ≤ ((w.alloc (.cells #[.int .i64 N, .slice A l.length c] 52)).alloc (.cells #[.slice A' (k + 1) c', .int .i64 co] 41)).heap.size := by simp; omega
  have hbox : ((w.alloc (.cells #[.int .i64 N, .slice A l.length c] 52)).alloc (.cells #[.slice A' (k + 1) c', .int .i64 co] 41)).heap[w.heap.size + 1]? = some (.cells #[.slice A' (k + 1) c', .int .i64 co] 41 (0, 0)) := by
    have h := heap_alloc_new (w.alloc (.cells #[.int .i64 N, .slice A l.length c] 52)) (.cells #[.slice A' (k + 1) c', .int .i64 co] 41)
    simpa using h
  have key := Walk.cost_any N A c l A' c' p _ ((hl.keep hw0 (Nat.le_refl _)).more hz0) ((hp.keep hw0 (Nat.le_refl _)).more hz0) hlen (by omega)
  rw [hcost, hm] at key
  obtain ⟨b, o, rfl, hb, _⟩ := at_eq hp hk0
  have KEY := Lib.hid key
  have HBOX := Lib.hid hbox
  have HP := Lib.hid hp
  have HK0 := Lib.hid hk0
  have HKK := Lib.hid hkk
  clear key hbox hcost hp hk0 hkk h0 h1 hm hl
  have hko : ((k : Int) + 1) - 1 = (k : Int) := by omega
  have hkl : (k : Int) < (k : Int) + 1 := by omega
  go_enter Try.func47, Try.ntmps47
  go_wp2_with fail
  refine KEY.out.mono ?_
  rintro e w1 ⟨rfl, hb1⟩
  have H1 := hw0.trans (hb1.mono hz0)
  have hbk := blk_below HBOX.out hb1 (by simp)
  have q0 := blk_cell hbk 0
  have q1 := blk_cell hbk 1
  simp only [List.getElem?_toArray, List.getElem?_cons_zero, List.getElem?_cons_succ] at q0 q1
  have hsl := HP.out.keep H1 (Nat.le_refl _)
  obtain ⟨b1, o1, e1, _, g1⟩ := at_eq hsl HK0.out
  injection e1 with e1
  injection e1 with e1 e2
  subst e1 e2
  obtain ⟨b1, o1, e1, _, g2⟩ := at_eq hsl HKK.out
  injection e1 with e1
  injection e1 with e1 e2
  subst e1 e2
  simp only [Nat.add_zero] at g1
  clear hbk hb1 hsl
  go_wp2
  go_ret
  exact ⟨rfl, H1⟩
theorem times_any (co Num Den least : Int) (w : World) (h1 : -9223372036854775808 ≤ co * Den ∧ co * Den ≤ 9223372036854775807) (h2 : -9223372036854775808 ≤ Num * least ∧ Num * least ≤ 9223372036854775807) (h : co * Den ≤ Num * least) :
    Calls Try.prog 48 #[.int .i64 co, .agg #[.int .i64 Num, .int .i64 Den], .int .i64 least] w fun e w' => e = .returned (.bool true) ∧ Below w.heap.size w w' := by
  have hw0 : Below w.heap.size w (w.alloc (.cells #[.int .i64 Num, .int .i64 Den] 39)) := (Below.refl _ _).alloc (Nat.le_refl _) _
  generalize hx : co * Den = x at *
  generalize hy : Num * least = y at *
  have hd : decide (x ≤ y) = true := by simp [h]
  go_enter Try.func48, Try.ntmps48
  go_wp2
  go_ret
  exact ⟨rfl, hw0⟩
theorem own_kc {w : World} {B : Nat} {e : TypeId} {A : Option Addr} {k c : Nat} {o : List Int} (h : Own w B e 1 ci (.slice A k c) o) : k ≤ c := by
  obtain ⟨A', c', hv, hc, _⟩ := h.form
  injection hv with _ h1 h2
  omega
theorem look_fst {N : Int} {l : List E} {a b : Int} (h : Dijk.look N l [a, b] = 0) : Dijk.look N l [a] = 0 := by
  unfold Dijk.look at h ⊢
  split at h
  · rename_i h1; exact absurd h h1
  · rename_i h1
    rw [if_neg h1]
    simp only [Dijk.lookE] at h ⊢
    split at h
    · omega
    · rename_i h2; rw [if_neg h2]
end Go.Proofs.Ytpoolpaagbeokaa.StarF

namespace Go.Proofs.Ytpoolpaagbeokaa.ServeG
open Go.RowKit Go.Proofs.Ytpoolpaagbeokaa NetLaw BellLaw DijkLaw StarLaw AraLaw Go.Proofs.Ytpoolpaagbeokaa.Net Go.Proofs.Ytpoolpaagbeokaa.Std Go.Proofs.Ytpoolpaagbeokaa.Flow Go.Proofs.Ytpoolpaagbeokaa.Refs Go.Proofs.Ytpoolpaagbeokaa.DijkTwo Go.Proofs.Ytpoolpaagbeokaa.Ara Go.Proofs.Ytpoolpaagbeokaa.GroundLaw Go.Proofs.Ytpoolpaagbeokaa.StarF
open Go.Proofs.Ytpoolpaagbeokaa.GridLaw hiding E
open Go.Proofs.Ytpoolpaagbeokaa.ServeLaw Go.Proofs.Ytpoolpaagbeokaa.Serve
set_option linter.unusedSimpArgs false
set_option linter.unusedVariables false
/-- what the round ahead costs -/
def lc (rs : List Rnd) (j : Nat) : Int := if j = 0 then far else match rs[j - 1]? with | some r => r.cost | none => far
theorem lc_step {rs : List Rnd} {j : Nat} {r : Rnd} (h : rs[j]? = some r) : lc rs (j + 1) = r.cost := by
  unfold lc
  rw [if_neg (Nat.succ_ne_zero j), Nat.add_sub_cancel, h]
theorem wg_wk {N : Int} {l : List E} {p : List Int} {co f t : Int} (h : WalkLaw.cost N l p = (co, 0)) (h0 : p.head? = some f) (h1 : p.getLast? = some t) : Wk l f t co := by
  have hz : (WalkLaw.cost N l p).2 = 0 := by rw [h]
  have hv := WalkLaw.cost_val (N := N) (l := l) (p := p)
  rw [if_pos hz, h] at hv
  have hok := (WalkLaw.cost_zero.1 hz).2.2.2.2
  have k := TopLaw.walk_wk p f t h0 h1 hok
  rw [← hv] at k
  exact k
/-- what holds of one round -/
theorem round_facts {n f t : Nat} {l : List E} {ws : List (Int × Int)} {s : AS} {M : List Int} (hR : RI n f t l ws s) (hM : Sh n f l M) (hg : NetLaw.Good n l) (hc : ∀ e ∈ l, 1 ≤ e.2.2) (ht : t < n) {j : Nat} {r : Rnd} (hj : s.rds[j]? = some r) (hjw : j < ws.length) :
    (r.num = ws[j].1 ∧ r.den = ws[j].2) ∧ r.cost ≤ lc s.rds j ∧ (dg M t = far → r.cost = far ∧ r.path = []) ∧ (dg M t < far → (0 ≤ r.cost ∧ r.cost < far) ∧ WalkLaw.cost n l r.path = (r.cost, 0) ∧ r.path.head? = some (f : Int) ∧ r.path.getLast? = some (t : Int) ∧ r.path.length ≤ 64 ∧ r.den * r.cost ≤ r.num * dg M t ∧ dg M t ≤ r.cost) := by
  have hlo := hM.lo t (by omega) (by omega)
  have hmem : r ∈ s.rds := List.mem_of_getElem? hj
  obtain ⟨hwg, hb⟩ := hR.each r hmem
  have hc0 : ∀ e ∈ l, 0 ≤ e.2.2 := fun e he => by have := hc e he; omega
  have hjl : j < s.rds.length := by obtain ⟨h, _⟩ := List.getElem?_eq_some_iff.1 hj; exact h
  refine ⟨?_, ?_, fun hf => ?_, fun hf => ?_⟩
  · have h1 : (s.rds.map (fun r => (r.num, r.den)))[j]? = some (r.num, r.den) := by rw [List.getElem?_map, hj]; rfl
    rw [hR.wts, List.getElem?_take, if_pos hjl, List.getElem?_eq_getElem hjw] at h1
    injection h1 with h1
    rw [h1]
    exact ⟨rfl, rfl⟩
  · unfold lc
    by_cases h0 : j = 0
    · rw [if_pos h0]
      rcases hwg with ⟨h, _⟩ | ⟨h, _⟩ <;> omega
    · rw [if_neg h0]
      obtain ⟨k, rfl⟩ : ∃ k, j = k + 1 := ⟨j - 1, by omega⟩
      have hk : k < s.rds.length := by omega
      rw [Nat.add_sub_cancel, List.getElem?_eq_getElem hk]
      have hp := List.pairwise_iff_getElem.1 hR.mono k (k + 1) hk hjl (Nat.lt_succ_self k)
      obtain ⟨_, e⟩ := List.getElem?_eq_some_iff.1 hj
      rw [← e]
      exact hp
  · rcases hwg with ⟨h, h2⟩ | ⟨h, h2, h3, h4, _⟩
    · exact ⟨h, h2⟩
    · have hw := wg_wk h2 h3 h4
      have := hM.walk_le hg.ends hw h hc0
      omega
  · obtain ⟨h1, h2⟩ := hb _ (hM.wk t (by omega) (by omega) hf) hf
    rcases hwg with ⟨h, _⟩ | ⟨h, k2, k3, k4, k5⟩
    · omega
    · have hw := wg_wk k2 k3 k4
      have h3 := hM.walk_le hg.ends hw h hc0
      exact ⟨⟨by omega, h⟩, k2, k3, k4, k5, h2, h3⟩

section
variable {b0 : Nat} {w w' : World} {Z : Nat} {W H : Int} {AC : Option Addr} {cC : Nat} {l : List Int} {turn : Nat} {σ : Nat → Option Slt} {D : Nat → Nat → Prop}
/-- what Poll answers, in one form -/
theorem poll_any (h : SV b0 w Z W H AC cC l turn σ D) {i : Nat} (hi : i < 6) {g : Slt} (hg : σ i = some g) : ∃ (st : Int) (r : Rnd), (Calls Try.prog 14 #[.pointer (some ⟨Z, 0, none⟩), .int .i64 i] w fun e w' => AnsSays st r w e w') ∧
    ((g.s.rds = [] ∧ st = 1 ∧ g.sm = false) ∨ (g.s.rds = [] ∧ st = 3 ∧ g.sm = true ∧ r = g.T.rnd) ∨ ∃ R0, g.s.rds = R0 ++ [r] ∧ st = if g.s.rds.length = g.F.ws.length then 4 else 2) := by
  rcases List.eq_nil_or_concat g.s.rds with hr | ⟨R0, r, hr⟩
  · cases hm : g.sm with
    | false =>
      refine ⟨1, ⟨0, 0, [], 0, 0⟩, (poll_empty h hi hg hr hm).mono ?_, .inl ⟨hr, rfl, rfl⟩⟩
      rintro e w' ⟨rfl, hb⟩
      exact ⟨none, 0, rfl, Own.nil_, hb⟩
    | true => exact ⟨3, g.T.rnd, poll_stale h hi hg hr hm, .inr (.inl ⟨hr, rfl, rfl, rfl⟩)⟩
  · rw [List.concat_eq_append] at hr
    exact ⟨_, r, poll_good h hi hg hr, .inr (.inr ⟨R0, hr, rfl⟩)⟩
/-- what holds of a slot's last round -/
theorem SL.last {n : Nat} {m : List E} {Dk : Nat → Prop} {g : Slt} (h : SL b0 w n m Dk g) {M : List Int} (hM : Sh n g.f m M) {R0 : List Rnd} {r : Rnd} (hr : g.s.rds = R0 ++ [r]) :
    (dg M g.F.tt = far → r.cost = far ∧ r.path = []) ∧ (dg M g.F.tt < far → (0 ≤ r.cost ∧ r.cost < far) ∧ WalkLaw.cost n m r.path = (r.cost, 0) ∧ r.path.head? = some (g.f : Int) ∧ r.path.getLast? = some (g.F.tt : Int) ∧ r.path.length ≤ 64 ∧ r.den * r.cost ≤ r.num * dg M g.F.tt ∧ dg M g.F.tt ≤ r.cost) ∧ (1 ≤ r.den ∧ r.den ≤ 1000000) ∧ 1 ≤ r.num ∧ r.num ≤ 1000000 := by
  obtain ⟨e1, e2, e3⟩ := h.net
  obtain ⟨V, _, _, hRI⟩ := h.sr.si h.fo h.po
  rw [e1, e2] at hRI
  have hj : g.s.rds[R0.length]? = some r := by rw [hr, List.getElem?_append_right (Nat.le_refl _), Nat.sub_self]; rfl
  have hl : R0.length < g.F.ws.length := by have h1 := hRI.len; rw [hr] at h1; simp at h1; omega
  have hgd := h.fo.gd
  have hc1 := h.fo.c1
  have htt := h.fo.tt
  rw [e1, e2] at hgd
  rw [e2] at hc1
  rw [e1] at htt
  obtain ⟨⟨a1, a2⟩, _, a3, a4⟩ := round_facts hRI hM hgd hc1 htt hj hl
  obtain ⟨_, hwo⟩ := wcode_ok h.wc
  obtain ⟨b1, b2⟩ := hwo _ (List.getElem_mem hl)
  rw [← a2] at b1
  rw [← a1] at b2
  exact ⟨a3, a4, b1, b2.1⟩
set_option maxRecDepth 100000 in
set_option maxHeartbeats 16000000 in
theorem good_one (h : SV b0 w Z W H AC cC l turn σ D) {i : Nat} (hi : i < 6) {g : Slt} (hg : σ i = some g) {r : Rnd} (kp : Calls Try.prog 14 #[.pointer (some ⟨Z, 0, none⟩), .int .i64 i] w fun e w' => AnsSays 1 r w e w') :
    Calls Try.prog 22 #[.pointer (some ⟨Z, 0, none⟩), .int .i64 i, .int .i64 g.f, .int .i64 g.F.tt] w fun e w' => e = .returned (.bool true) ∧ Below w.heap.size w w' := by
  have SV0 := Lib.hid h
  have HG := Lib.hid hg
  have KP := Lib.hid kp
  have hl64 := size_bd h.good
  clear h hg kp
  go_enter Try.func22, Try.ntmps22
  go_wp2_with fail
  refine KP.out.mono ?_
  rintro e w1 ⟨A1, c1, rfl, own1, hb1⟩
  have HB1 := Lib.hid hb1
  have OW1 := Lib.hid own1
  clear hb1 own1 KP
  go_upto_region 2 with fail
  have hbx := heap_alloc_new w1 (.cells #[.int .i64 1, .int .i64 r.num, .int .i64 r.den, .slice A1 r.path.length c1, .int .i64 r.cost, .int .i64 r.done] 45)
  have h12 : Below w1.heap.size w1 (w1.alloc (.cells #[.int .i64 1, .int .i64 r.num, .int .i64 r.den, .slice A1 r.path.length c1, .int .i64 r.cost, .int .i64 r.done] 45)) := (Below.refl _ _).alloc (Nat.le_refl _) _
  have HB2 := Lib.hid (HB1.out.trans (h12.mono HB1.out.size))
  have OW2 := Lib.hid (OW1.out.keep h12)
  generalize w1.alloc (.cells #[.int .i64 1, .int .i64 r.num, .int .i64 r.den, .slice A1 r.path.length c1, .int .i64 r.cost, .int .i64 r.done] 45) = w2 at hbx HB2 OW2 ⊢
  generalize w1.heap.size = XA at hbx ⊢
  have HBX := Lib.hid hbx
  have SV2 := Lib.hid (SV0.out.keep HB2.out)
  obtain ⟨z0, z1, z2, _, _, zp⟩ := SV2.out.zs
  have kg := Serve.ground_any Z W H AC cC l w2 SV2.out.cells.sl.2 SV2.out.nil_ (by omega) z0 z1 z2 zp
  have KG := Lib.hid kg
  clear kg hbx h12 HB1 OW1 z0 z1 z2 zp
  go_wp2_with fail
  refine KG.out.mono ?_
  rintro e w3 ⟨A3, c3, rfl, own3, hb3⟩
  have kof := NetOf.of_yes W H A3 c3 l w3 own3.sl.2 SV2.out.good
  have KOF := Lib.hid kof
  have HB3 := Lib.hid (HB2.out.trans (hb3.mono HB2.out.size))
  have OW3 := Lib.hid (OW2.out.keep hb3)
  have HBX3 := Lib.hid (blk_below HBX.out hb3 (lt_of_block HBX.out))
  clear kof own3 hb3 KG HB2 OW2 HBX
  go_wp2_with fail
  refine KOF.out.mono ?_
  rintro e w4 ⟨A4, c4, rfl, own4, hb4⟩
  have HB4 := Lib.hid (HB3.out.trans (hb4.mono HB3.out.size))
  have OW4 := Lib.hid (OW3.out.keep hb4)
  have HBX4 := Lib.hid (blk_below HBX3.out hb4 (lt_of_block HBX3.out))
  have ON4 := Lib.hid own4
  clear own4 hb4 KOF HB3 OW3 HBX3
  go_upto_region 3 with fail
  have hbn := heap_alloc_new w4 (.cells #[.int .i64 l.length, .slice A4 (allM W H l l.length).length c4] 52)
  have h45 : Below w4.heap.size w4 (w4.alloc (.cells #[.int .i64 l.length, .slice A4 (allM W H l l.length).length c4] 52)) := (Below.refl _ _).alloc (Nat.le_refl _) _
  have HB5 := Lib.hid (HB4.out.trans (h45.mono HB4.out.size))
  have OW5 := Lib.hid (OW4.out.keep h45)
  have ON5 := Lib.hid (ON4.out.keep h45)
  have hbx := blk_below HBX4.out h45 (lt_of_block HBX4.out)
  generalize w4.alloc (.cells #[.int .i64 l.length, .slice A4 (allM W H l l.length).length c4] 52) = w5 at hbn HB5 OW5 ON5 hbx ⊢
  generalize w4.heap.size = XN at hbn ⊢
  clear h45 HB4 OW4 ON4 HBX4
  have q0 := blk_cell hbx 0
  have q1 := blk_cell hbx 1
  have q2 := blk_cell hbx 2
  have q3 := blk_cell hbx 3
  have q4 := blk_cell hbx 4
  have q5 := blk_cell hbx 5
  have zq := lt_of_block hbx
  simp only [List.getElem?_toArray, List.getElem?_cons_zero, List.getElem?_cons_succ] at q0 q1 q2 q3 q4 q5
  clear hbn hbx q1 q2 q3 q4 q5
  go_wp2
  go_ret
  exact ⟨rfl, HB5.out⟩
set_option maxRecDepth 100000 in
set_option maxHeartbeats 16000000 in
theorem good_three (h : SV b0 w Z W H AC cC l turn σ D) {i : Nat} (hi : i < 6) {g : Slt} (hg : σ i = some g) {r : Rnd} (kp : Calls Try.prog 14 #[.pointer (some ⟨Z, 0, none⟩), .int .i64 i] w fun e w' => AnsSays 3 r w e w') :
    Calls Try.prog 22 #[.pointer (some ⟨Z, 0, none⟩), .int .i64 i, .int .i64 g.f, .int .i64 g.F.tt] w fun e w' => e = .returned (.bool true) ∧ Below w.heap.size w w' := by
  have SV0 := Lib.hid h
  have HG := Lib.hid hg
  have KP := Lib.hid kp
  have hl64 := size_bd h.good
  clear h hg kp
  go_enter Try.func22, Try.ntmps22
  go_wp2_with fail
  refine KP.out.mono ?_
  rintro e w1 ⟨A1, c1, rfl, own1, hb1⟩
  have HB1 := Lib.hid hb1
  have OW1 := Lib.hid own1
  clear hb1 own1 KP
  go_upto_region 2 with fail
  have hbx := heap_alloc_new w1 (.cells #[.int .i64 3, .int .i64 r.num, .int .i64 r.den, .slice A1 r.path.length c1, .int .i64 r.cost, .int .i64 r.done] 45)
  have h12 : Below w1.heap.size w1 (w1.alloc (.cells #[.int .i64 3, .int .i64 r.num, .int .i64 r.den, .slice A1 r.path.length c1, .int .i64 r.cost, .int .i64 r.done] 45)) := (Below.refl _ _).alloc (Nat.le_refl _) _
  have HB2 := Lib.hid (HB1.out.trans (h12.mono HB1.out.size))
  have OW2 := Lib.hid (OW1.out.keep h12)
  generalize w1.alloc (.cells #[.int .i64 3, .int .i64 r.num, .int .i64 r.den, .slice A1 r.path.length c1, .int .i64 r.cost, .int .i64 r.done] 45) = w2 at hbx HB2 OW2 ⊢
  generalize w1.heap.size = XA at hbx ⊢
  have HBX := Lib.hid hbx
  have SV2 := Lib.hid (SV0.out.keep HB2.out)
  obtain ⟨z0, z1, z2, _, _, zp⟩ := SV2.out.zs
  have kg := Serve.ground_any Z W H AC cC l w2 SV2.out.cells.sl.2 SV2.out.nil_ (by omega) z0 z1 z2 zp
  have KG := Lib.hid kg
  clear kg hbx h12 HB1 OW1 z0 z1 z2 zp
  go_wp2_with fail
  refine KG.out.mono ?_
  rintro e w3 ⟨A3, c3, rfl, own3, hb3⟩
  have kof := NetOf.of_yes W H A3 c3 l w3 own3.sl.2 SV2.out.good
  have KOF := Lib.hid kof
  have HB3 := Lib.hid (HB2.out.trans (hb3.mono HB2.out.size))
  have OW3 := Lib.hid (OW2.out.keep hb3)
  have HBX3 := Lib.hid (blk_below HBX.out hb3 (lt_of_block HBX.out))
  clear kof own3 hb3 KG HB2 OW2 HBX
  go_wp2_with fail
  refine KOF.out.mono ?_
  rintro e w4 ⟨A4, c4, rfl, own4, hb4⟩
  have HB4 := Lib.hid (HB3.out.trans (hb4.mono HB3.out.size))
  have OW4 := Lib.hid (OW3.out.keep hb4)
  have HBX4 := Lib.hid (blk_below HBX3.out hb4 (lt_of_block HBX3.out))
  have ON4 := Lib.hid own4
  clear own4 hb4 KOF HB3 OW3 HBX3
  go_upto_region 3 with fail
  have hbn := heap_alloc_new w4 (.cells #[.int .i64 l.length, .slice A4 (allM W H l l.length).length c4] 52)
  have h45 : Below w4.heap.size w4 (w4.alloc (.cells #[.int .i64 l.length, .slice A4 (allM W H l l.length).length c4] 52)) := (Below.refl _ _).alloc (Nat.le_refl _) _
  have HB5 := Lib.hid (HB4.out.trans (h45.mono HB4.out.size))
  have OW5 := Lib.hid (OW4.out.keep h45)
  have ON5 := Lib.hid (ON4.out.keep h45)
  have hbx := blk_below HBX4.out h45 (lt_of_block HBX4.out)
  generalize w4.alloc (.cells #[.int .i64 l.length, .slice A4 (allM W H l l.length).length c4] 52) = w5 at hbn HB5 OW5 ON5 hbx ⊢
  generalize w4.heap.size = XN at hbn ⊢
  clear h45 HB4 OW4 ON4 HBX4
  have q0 := blk_cell hbx 0
  have q1 := blk_cell hbx 1
  have q2 := blk_cell hbx 2
  have q3 := blk_cell hbx 3
  have q4 := blk_cell hbx 4
  have q5 := blk_cell hbx 5
  have zq := lt_of_block hbx
  simp only [List.getElem?_toArray, List.getElem?_cons_zero, List.getElem?_cons_succ] at q0 q1 q2 q3 q4 q5
  clear hbn hbx q1 q2 q3 q4 q5
  go_wp2
  go_ret
  exact ⟨rfl, HB5.out⟩
set_option maxRecDepth 100000 in
set_option maxHeartbeats 16000000 in
theorem good_two (h : SV b0 w Z W H AC cC l turn σ D) {i : Nat} (hi : i < 6) {g : Slt} (hg : σ i = some g) {r : Rnd} (kp : Calls Try.prog 14 #[.pointer (some ⟨Z, 0, none⟩), .int .i64 i] w fun e w' => AnsSays 2 r w e w') {R0 : List Rnd} (hr : g.s.rds = R0 ++ [r]) :
    Calls Try.prog 22 #[.pointer (some ⟨Z, 0, none⟩), .int .i64 i, .int .i64 g.f, .int .i64 g.F.tt] w fun e w' => e = .returned (.bool true) ∧ Below w.heap.size w w' := by
  have SV0 := Lib.hid h
  have HG := Lib.hid hg
  have KP := Lib.hid kp
  have hl64 := size_bd h.good
  clear h hg kp
  have HR := Lib.hid hr
  clear hr
  go_enter Try.func22, Try.ntmps22
  go_wp2_with fail
  refine KP.out.mono ?_
  rintro e w1 ⟨A1, c1, rfl, own1, hb1⟩
  have HB1 := Lib.hid hb1
  have OW1 := Lib.hid own1
  clear hb1 own1 KP
  go_upto_region 2 with fail
  have hbx := heap_alloc_new w1 (.cells #[.int .i64 2, .int .i64 r.num, .int .i64 r.den, .slice A1 r.path.length c1, .int .i64 r.cost, .int .i64 r.done] 45)
  have h12 : Below w1.heap.size w1 (w1.alloc (.cells #[.int .i64 2, .int .i64 r.num, .int .i64 r.den, .slice A1 r.path.length c1, .int .i64 r.cost, .int .i64 r.done] 45)) := (Below.refl _ _).alloc (Nat.le_refl _) _
  have HB2 := Lib.hid (HB1.out.trans (h12.mono HB1.out.size))
  have OW2 := Lib.hid (OW1.out.keep h12)
  generalize w1.alloc (.cells #[.int .i64 2, .int .i64 r.num, .int .i64 r.den, .slice A1 r.path.length c1, .int .i64 r.cost, .int .i64 r.done] 45) = w2 at hbx HB2 OW2 ⊢
  generalize w1.heap.size = XA at hbx ⊢
  have HBX := Lib.hid hbx
  have SV2 := Lib.hid (SV0.out.keep HB2.out)
  obtain ⟨z0, z1, z2, _, _, zp⟩ := SV2.out.zs
  have kg := Serve.ground_any Z W H AC cC l w2 SV2.out.cells.sl.2 SV2.out.nil_ (by omega) z0 z1 z2 zp
  have KG := Lib.hid kg
  clear kg hbx h12 HB1 OW1 z0 z1 z2 zp
  go_wp2_with fail
  refine KG.out.mono ?_
  rintro e w3 ⟨A3, c3, rfl, own3, hb3⟩
  have kof := NetOf.of_yes W H A3 c3 l w3 own3.sl.2 SV2.out.good
  have KOF := Lib.hid kof
  have HB3 := Lib.hid (HB2.out.trans (hb3.mono HB2.out.size))
  have OW3 := Lib.hid (OW2.out.keep hb3)
  have HBX3 := Lib.hid (blk_below HBX.out hb3 (lt_of_block HBX.out))
  clear kof own3 hb3 KG HB2 OW2 HBX
  go_wp2_with fail
  refine KOF.out.mono ?_
  rintro e w4 ⟨A4, c4, rfl, own4, hb4⟩
  have HB4 := Lib.hid (HB3.out.trans (hb4.mono HB3.out.size))
  have OW4 := Lib.hid (OW3.out.keep hb4)
  have HBX4 := Lib.hid (blk_below HBX3.out hb4 (lt_of_block HBX3.out))
  have ON4 := Lib.hid own4
  clear own4 hb4 KOF HB3 OW3 HBX3
  go_upto_region 3 with fail
  have hbn := heap_alloc_new w4 (.cells #[.int .i64 l.length, .slice A4 (allM W H l l.length).length c4] 52)
  have h45 : Below w4.heap.size w4 (w4.alloc (.cells #[.int .i64 l.length, .slice A4 (allM W H l l.length).length c4] 52)) := (Below.refl _ _).alloc (Nat.le_refl _) _
  have HB5 := Lib.hid (HB4.out.trans (h45.mono HB4.out.size))
  have OW5 := Lib.hid (OW4.out.keep h45)
  have ON5 := Lib.hid (ON4.out.keep h45)
  have hbx := blk_below HBX4.out h45 (lt_of_block HBX4.out)
  generalize w4.alloc (.cells #[.int .i64 l.length, .slice A4 (allM W H l l.length).length c4] 52) = w5 at hbn HB5 OW5 ON5 hbx ⊢
  generalize w4.heap.size = XN at hbn ⊢
  clear h45 HB4 OW4 ON4 HBX4
  have q0 := blk_cell hbx 0
  have q1 := blk_cell hbx 1
  have q2 := blk_cell hbx 2
  have q3 := blk_cell hbx 3
  have q4 := blk_cell hbx 4
  have q5 := blk_cell hbx 5
  have zq := lt_of_block hbx
  simp only [List.getElem?_toArray, List.getElem?_cons_zero, List.getElem?_cons_succ] at q0 q1 q2 q3 q4 q5
  have n0 := blk_cell hbn 0
  have n1 := blk_cell hbn 1
  have zn := lt_of_block hbn
  simp only [List.getElem?_toArray, List.getElem?_cons_zero, List.getElem?_cons_succ] at n0 n1
  have hsl := SV2.out.slot i hi g HG.out
  obtain ⟨e1, e2, e3⟩ := hsl.net
  have hgood := hsl.fo.gd
  have hpos := hsl.fo.c1
  have htl := hsl.fo.tt
  have hfl := hsl.po.fr
  rw [e1, e2] at hgood
  rw [e2] at hpos
  rw [e1] at htl hfl
  have hlk : Dijk.look l.length (allM W H l l.length) [(g.f : Int)] = 0 := by
    have h1 := pos_goodS hgood hpos
    rw [Dijk.look, if_neg (by simpa using h1)]
    exact lookE_zeroS.2 (by intro y hy; simp at hy; omega)
  have hla : (allM W H l l.length).length ≤ 9223372036854775807 := by have := hgood.len; omega
  have kd := dist_yes l.length A4 c4 (allM W H l l.length) g.f hla hlk w5 ON5.out.sl.2
  rw [Int.toNat_natCast] at kd
  have KD := Lib.hid kd
  have HSL := Lib.hid hsl
  have HTL := Lib.hid htl
  have HLA := Lib.hid hla
  clear e1 e2 e3 hgood hpos hfl hlk kd hsl hbn hbx hla
  go_wp2_with fail
  refine KD.out.mono ?_
  rintro e w6 ⟨S6, M, rfl, own6, hb6, HSH⟩
  have hMl : M.length = l.length := own6.sl.1.symm
  obtain ⟨m0, m1⟩ := own_atG (0 : Int) hMl own6 htl
  simp only [ci] at m0
  have HB6 := Lib.hid (HB5.out.trans (hb6.mono HB5.out.size))
  have ON6 := Lib.hid (ON5.out.keep hb6)
  have OW6 := Lib.hid (OW5.out.keep hb6)
  have p0 := (hb6.cell (p := ⟨XA, 0, none⟩) zq).trans q0
  have p1 := (hb6.cell (p := ⟨XA, 1, none⟩) zq).trans q1
  have p2 := (hb6.cell (p := ⟨XA, 2, none⟩) zq).trans q2
  have p3 := (hb6.cell (p := ⟨XA, 3, none⟩) zq).trans q3
  have p4 := (hb6.cell (p := ⟨XA, 4, none⟩) zq).trans q4
  have p5 := (hb6.cell (p := ⟨XA, 5, none⟩) zq).trans q5
  have o0 := (hb6.cell (p := ⟨XN, 0, none⟩) zn).trans n0
  have o1 := (hb6.cell (p := ⟨XN, 1, none⟩) zn).trans n1
  have zq6 := Nat.lt_of_lt_of_le zq hb6.size
  have zn6 := Nat.lt_of_lt_of_le zn hb6.size
  have zs6 : S6 < w6.heap.size := (own6.base_ S6 rfl).2
  have hfacts := SL.last HSL.out HSH.out HR.out
  obtain ⟨hlo, hhi⟩ := HSH.out.lo g.F.tt (by omega) (by omega)
  have hdm : dg M (g.F.tt : Int) = M.getD g.F.tt 0 := by unfold dg; simp
  rw [hdm] at hfacts hlo hhi
  generalize M.getD g.F.tt 0 = mt at *
  have ztt : (g.F.tt : Int) < (l.length : Int) := by omega
  clear q0 q1 q2 q3 q4 q5 n0 n1 hb6 own6 zq zn hdm KD hMl htl
  by_cases hfar : mt = far
  · have hc := (hfacts.1 hfar).1
    have hfar' : mt = 1099511627776 := hfar
    subst hfar'
    rw [hc] at p4
    change w6.cell? _ = some (.int .i64 1099511627776) at p4
    clear hfacts hlo hhi hfar hc
    go_wp2
    go_ret
    exact ⟨rfl, HB6.out⟩
  · have hlt : mt < far := by omega
    obtain ⟨_, h2, ⟨d1, d2⟩, u1, u2⟩ := hfacts
    obtain ⟨⟨c0, cf⟩, hcost, hhd, hla, hpl, hw, hge⟩ := h2 hlt
    have hfar' : (mt == 1099511627776) = false := by rw [beq_eq_false_iff_ne]; exact hfar
    generalize hco : r.cost = co at *
    generalize hP : r.num = p at *
    generalize hQ : r.den = q at *
    have hff : far = 1099511627776 := rfl
    have hq1 : 0 ≤ co * q := Int.mul_nonneg c0 (by omega)
    have hq2 : co * q ≤ 1099511627776 * 1000000 := Int.mul_le_mul (by omega) (by omega) (by omega) (by omega)
    have hq3 : 0 ≤ p * mt := Int.mul_nonneg (by omega) (by omega)
    have hq4 : p * mt ≤ 1000000 * 1099511627776 := Int.mul_le_mul (by omega) (by omega) (by omega) (by omega)
    have kw := fun W' (hW : Below w6.heap.size w6 W') => walks_any l.length co g.f g.F.tt A4 c4 (allM W H l l.length) A1 r.path.length c1 r.path W' ((ON6.out.keep hW).sl.2) ((OW6.out.keep hW).sl.2) rfl HLA.out (by omega) hcost hhd hla
    have kt := fun W' => times_any co p q mt W' (by omega) (by omega) (by rw [Int.mul_comm]; exact hw)
    have hcl : ∀ W', Below w6.heap.size w6 W' → W'.cell? ⟨XN, 0, none⟩ = some (.int .i64 l.length) ∧ W'.cell? ⟨XN, 1, none⟩ = some (.slice A4 (allM W H l l.length).length c4) ∧ W'.cell? ⟨XA, 0, none⟩ = some (.int .i64 2) ∧ W'.cell? ⟨XA, 1, none⟩ = some (.int .i64 p) ∧ W'.cell? ⟨XA, 2, none⟩ = some (.int .i64 q) ∧ W'.cell? ⟨XA, 3, none⟩ = some (.slice A1 r.path.length c1) ∧ W'.cell? ⟨XA, 4, none⟩ = some (.int .i64 co) ∧ W'.cell? ⟨S6, g.F.tt, none⟩ = some (.int .i64 mt) := fun W' hW => ⟨(hW.cell (p := ⟨XN, 0, none⟩) zn6).trans o0, (hW.cell (p := ⟨XN, 1, none⟩) zn6).trans o1, (hW.cell (p := ⟨XA, 0, none⟩) zq6).trans p0, (hW.cell (p := ⟨XA, 1, none⟩) zq6).trans p1, (hW.cell (p := ⟨XA, 2, none⟩) zq6).trans p2, (hW.cell (p := ⟨XA, 3, none⟩) zq6).trans p3, (hW.cell (p := ⟨XA, 4, none⟩) zq6).trans p4, (hW.cell (p := ⟨S6, g.F.tt, none⟩) zs6).trans m0⟩
    have KW := Lib.hid kw
    have KT := Lib.hid kt
    have HCL := Lib.hid hcl
    have HW2 := Lib.hid hw
    have HGE := Lib.hid hge
    have HCO := Lib.hid (And.intro hco (And.intro hP hQ))
    clear kw kt hcl hq1 hq2 hq3 hq4 hw hge hcost hhd hla hpl c0 cf d1 d2 u1 u2 hlt hff hco hP hQ h2 hfar hlo hhi
    go_upto_region 12 with fail
    have s0 := HCL.out w6.drew (Below.refl _ _).drew
    refine Go.wp_region_held_drew (S := (fun w' => w'.cell? ⟨XN, 0, none⟩ = some (.int .i64 l.length) ∧ w'.cell? ⟨XN, 1, none⟩ = some (.slice A4 (allM W H l l.length).length c4) ∧ w'.cell? ⟨XA, 0, none⟩ = some (.int .i64 2) ∧ w'.cell? ⟨XA, 1, none⟩ = some (.int .i64 p) ∧ w'.cell? ⟨XA, 2, none⟩ = some (.int .i64 q) ∧ w'.cell? ⟨XA, 3, none⟩ = some (.slice A1 r.path.length c1) ∧ w'.cell? ⟨XA, 4, none⟩ = some (.int .i64 co) ∧ w'.cell? ⟨S6, g.F.tt, none⟩ = some (.int .i64 mt))) (by kernel_rfl) s0 (fun hHeld => ?_)
    refine Go.wpAnyH_take (fuel := 44) (i := 0) (oi := _) (v := ?_) rfl (by kernel_rfl) (by kernel_rfl) (by kernel_rfl) (fun _ _ _ h => h) (Or.inl ⟨by rfl, ?_⟩) (by first | exact hHeld | assumption) ?_
    rotate_left
    · (intro w hSw; (try dsimp only at hSw); (try unfold SN at hSw); go_simp)
      try with_reducible rfl
    try simp only [Act.put, List.getElem_toArray, List.getElem_cons_succ, List.getElem_cons_zero, List.setIfInBounds_toArray, List.set_cons_zero, List.set_cons_succ]
    refine Go.wpAnyH_take (fuel := 43) (i := 1) (oi := _) (v := ?_) rfl (by kernel_rfl) (by kernel_rfl) (by kernel_rfl) (fun _ _ _ h => h) (Or.inl ⟨by rfl, ?_⟩) (by first | exact hHeld | assumption) ?_
    rotate_left
    · (intro w hSw; (try dsimp only at hSw); (try unfold SN at hSw); go_simp)
      try with_reducible rfl
    try simp only [Act.put, List.getElem_toArray, List.getElem_cons_succ, List.getElem_cons_zero, List.setIfInBounds_toArray, List.set_cons_zero, List.set_cons_succ]
    refine Go.wpAnyH_take (fuel := 42) (i := 2) (oi := _) (v := ?_) rfl (by kernel_rfl) (by kernel_rfl) (by kernel_rfl) (fun _ _ _ h => h) (Or.inl ⟨by rfl, ?_⟩) (by first | exact hHeld | assumption) ?_
    rotate_left
    · (intro w hSw; (try dsimp only at hSw); (try unfold SN at hSw); go_simp)
      try with_reducible rfl
    try simp only [Act.put, List.getElem_toArray, List.getElem_cons_succ, List.getElem_cons_zero, List.setIfInBounds_toArray, List.set_cons_zero, List.set_cons_succ]
    refine Go.wpAnyH_take (fuel := 41) (i := 3) (oi := _) (v := ?_) rfl (by kernel_rfl) (by kernel_rfl) (by kernel_rfl) (fun _ _ _ h => h) (Or.inl ⟨by rfl, ?_⟩) (by first | exact hHeld | assumption) ?_
    rotate_left
    · (intro w hSw; (try dsimp only at hSw); (try unfold SN at hSw); go_simp)
      try with_reducible rfl
    try simp only [Act.put, List.getElem_toArray, List.getElem_cons_succ, List.getElem_cons_zero, List.setIfInBounds_toArray, List.set_cons_zero, List.set_cons_succ]
    refine Go.wpAnyH_take (fuel := 40) (i := 4) (oi := _) (v := ?_) rfl (by kernel_rfl) (by kernel_rfl) (by kernel_rfl) (fun _ _ _ h => h) (Or.inl ⟨by rfl, ?_⟩) (by first | exact hHeld | assumption) ?_
    rotate_left
    · (intro w hSw; (try dsimp only at hSw); (try unfold SN at hSw); go_simp)
      try with_reducible rfl
    try simp only [Act.put, List.getElem_toArray, List.getElem_cons_succ, List.getElem_cons_zero, List.setIfInBounds_toArray, List.set_cons_zero, List.set_cons_succ]
    refine Go.wpAnyH_take (fuel := 39) (i := 5) (oi := _) (v := ?_) rfl (by kernel_rfl) (by kernel_rfl) (by kernel_rfl) (fun _ _ _ h => h) (Or.inl ⟨by rfl, ?_⟩) (by first | exact hHeld | assumption) ?_
    rotate_left
    · (intro w hSw; (try dsimp only at hSw); (try unfold SN at hSw); go_simp)
      try with_reducible rfl
    try simp only [Act.put, List.getElem_toArray, List.getElem_cons_succ, List.getElem_cons_zero, List.setIfInBounds_toArray, List.set_cons_zero, List.set_cons_succ]
    refine Go.wpAnyH_ready (fuel := 38) (rs := [6]) (by kernel_rfl) (by simp) ?_
    refine Go.AllReadyH.cons (o := _) rfl (fun K hK => ?_) Go.AllReadyH.nil
    have HKX := Lib.hid hK
    clear hK
    go_simp
    go_at_call 47
    refine (KW.out _ (Below.refl _ _).drew).mono ?_
    rintro e w7 ⟨rfl, hb7⟩
    have HB7 := Lib.hid ((Below.refl w6.heap.size w6).drew.trans (hb7.mono (Nat.le_refl _)))
    clear hb7
    have k1s := HCL.out _ HB7.out
    refine HKX.out.out _ _ k1s (fun hHeld => ?_)
    clear HKX
    try simp only [Act.put, List.getElem_toArray, List.getElem_cons_succ, List.getElem_cons_zero, List.setIfInBounds_toArray, List.set_cons_zero, List.set_cons_succ]
    refine Go.wpAnyH_take (fuel := 37) (i := 7) (oi := _) (v := ?_) rfl (by kernel_rfl) (by kernel_rfl) (by kernel_rfl) (fun _ _ _ h => h) (Or.inl ⟨by rfl, ?_⟩) (by first | exact hHeld | assumption) ?_
    rotate_left
    · (intro w hSw; (try dsimp only at hSw); (try unfold SN at hSw); go_simp)
      try with_reducible rfl
    try simp only [Act.put, List.getElem_toArray, List.getElem_cons_succ, List.getElem_cons_zero, List.setIfInBounds_toArray, List.set_cons_zero, List.set_cons_succ]
    refine Go.wpAnyH_take (fuel := 36) (i := 8) (oi := _) (v := ?_) rfl (by kernel_rfl) (by kernel_rfl) (by kernel_rfl) (fun _ _ _ h => h) (Or.inl ⟨by rfl, ?_⟩) (by first | exact hHeld | assumption) ?_
    rotate_left
    · (intro w hSw; (try dsimp only at hSw); (try unfold SN at hSw); go_simp)
      try with_reducible rfl
    try simp only [Act.put, List.getElem_toArray, List.getElem_cons_succ, List.getElem_cons_zero, List.setIfInBounds_toArray, List.set_cons_zero, List.set_cons_succ]
    refine Go.wpAnyH_take (fuel := 35) (i := 9) (oi := _) (v := ?_) rfl (by kernel_rfl) (by kernel_rfl) (by kernel_rfl) (fun _ _ _ h => h) (Or.inl ⟨by rfl, ?_⟩) (by first | exact hHeld | assumption) ?_
    rotate_left
    · (intro w hSw; (try dsimp only at hSw); (try unfold SN at hSw); go_simp)
      try with_reducible rfl
    try simp only [Act.put, List.getElem_toArray, List.getElem_cons_succ, List.getElem_cons_zero, List.setIfInBounds_toArray, List.set_cons_zero, List.set_cons_succ]
    refine Go.wpAnyH_take (fuel := 34) (i := 10) (oi := _) (v := ?_) rfl (by kernel_rfl) (by kernel_rfl) (by kernel_rfl) (fun _ _ _ h => h) (Or.inl ⟨by rfl, ?_⟩) (by first | exact hHeld | assumption) ?_
    rotate_left
    · (intro w hSw; (try dsimp only at hSw); (try unfold SN at hSw); go_simp)
      try with_reducible rfl
    try simp only [Act.put, List.getElem_toArray, List.getElem_cons_succ, List.getElem_cons_zero, List.setIfInBounds_toArray, List.set_cons_zero, List.set_cons_succ]
    refine Go.wpAnyH_take (fuel := 33) (i := 11) (oi := _) (v := ?_) rfl (by kernel_rfl) (by kernel_rfl) (by kernel_rfl) (fun _ _ _ h => h) (Or.inl ⟨by rfl, ?_⟩) (by first | exact hHeld | assumption) ?_
    rotate_left
    · (intro w hSw; (try dsimp only at hSw); (try unfold SN at hSw); go_simp)
      try with_reducible rfl
    try simp only [Act.put, List.getElem_toArray, List.getElem_cons_succ, List.getElem_cons_zero, List.setIfInBounds_toArray, List.set_cons_zero, List.set_cons_succ]
    refine Go.wpAnyH_take (fuel := 32) (i := 12) (oi := _) (v := ?_) rfl (by kernel_rfl) (by kernel_rfl) (by kernel_rfl) (fun _ _ _ h => h) (Or.inl ⟨by rfl, ?_⟩) (by first | exact hHeld | assumption) ?_
    rotate_left
    · (intro w hSw; (try dsimp only at hSw); (try unfold SN at hSw); go_simp)
      try with_reducible rfl
    try simp only [Act.put, List.getElem_toArray, List.getElem_cons_succ, List.getElem_cons_zero, List.setIfInBounds_toArray, List.set_cons_zero, List.set_cons_succ]
    refine Go.wpAnyH_take (fuel := 31) (i := 13) (oi := _) (v := ?_) rfl (by kernel_rfl) (by kernel_rfl) (by kernel_rfl) (fun _ _ _ h => h) (Or.inl ⟨by rfl, ?_⟩) (by first | exact hHeld | assumption) ?_
    rotate_left
    · (intro w hSw; (try dsimp only at hSw); (try unfold SN at hSw); go_simp)
      try with_reducible rfl
    try simp only [Act.put, List.getElem_toArray, List.getElem_cons_succ, List.getElem_cons_zero, List.setIfInBounds_toArray, List.set_cons_zero, List.set_cons_succ]
    refine Go.wpAnyH_take (fuel := 30) (i := 14) (oi := _) (v := ?_) rfl (by kernel_rfl) (by kernel_rfl) (by kernel_rfl) (fun _ _ _ h => h) (Or.inl ⟨by rfl, ?_⟩) (by first | exact hHeld | assumption) ?_
    rotate_left
    · (intro w hSw; (try dsimp only at hSw); (try unfold SN at hSw); go_simp)
      try with_reducible rfl
    try simp only [Act.put, List.getElem_toArray, List.getElem_cons_succ, List.getElem_cons_zero, List.setIfInBounds_toArray, List.set_cons_zero, List.set_cons_succ]
    refine Go.wpAnyH_take (fuel := 29) (i := 15) (oi := _) (v := ?_) rfl (by kernel_rfl) (by kernel_rfl) (by kernel_rfl) (fun _ _ _ h => h) (Or.inl ⟨by rfl, ?_⟩) (by first | exact hHeld | assumption) ?_
    rotate_left
    · (intro w hSw; (try dsimp only at hSw); (try unfold SN at hSw); go_simp)
      try with_reducible rfl
    try simp only [Act.put, List.getElem_toArray, List.getElem_cons_succ, List.getElem_cons_zero, List.setIfInBounds_toArray, List.set_cons_zero, List.set_cons_succ]
    refine Go.wpAnyH_take (fuel := 28) (i := 16) (oi := _) (v := ?_) rfl (by kernel_rfl) (by kernel_rfl) (by kernel_rfl) (fun _ _ _ h => h) (Or.inl ⟨by rfl, ?_⟩) (by first | exact hHeld | assumption) ?_
    rotate_left
    · (intro w hSw; (try dsimp only at hSw); (try unfold SN at hSw); go_simp)
      try with_reducible rfl
    try simp only [Act.put, List.getElem_toArray, List.getElem_cons_succ, List.getElem_cons_zero, List.setIfInBounds_toArray, List.set_cons_zero, List.set_cons_succ]
    refine Go.wpAnyH_take (fuel := 27) (i := 17) (oi := _) (v := ?_) rfl (by kernel_rfl) (by kernel_rfl) (by kernel_rfl) (fun _ _ _ h => h) (Or.inl ⟨by rfl, ?_⟩) (by first | exact hHeld | assumption) ?_
    rotate_left
    · (intro w hSw; (try dsimp only at hSw); (try unfold SN at hSw); go_simp)
      try with_reducible rfl
    try simp only [Act.put, List.getElem_toArray, List.getElem_cons_succ, List.getElem_cons_zero, List.setIfInBounds_toArray, List.set_cons_zero, List.set_cons_succ]
    refine Go.wpAnyH_take (fuel := 26) (i := 18) (oi := _) (v := ?_) rfl (by kernel_rfl) (by kernel_rfl) (by kernel_rfl) (fun _ _ _ h => h) (Or.inl ⟨by rfl, ?_⟩) (by first | exact hHeld | assumption) ?_
    rotate_left
    · (intro w hSw; (try dsimp only at hSw); (try unfold SN at hSw); go_simp)
      try with_reducible rfl
    try simp only [Act.put, List.getElem_toArray, List.getElem_cons_succ, List.getElem_cons_zero, List.setIfInBounds_toArray, List.set_cons_zero, List.set_cons_succ]
    refine Go.wpAnyH_ready (fuel := 25) (rs := [19]) (by kernel_rfl) (by simp) ?_
    refine Go.AllReadyH.cons (o := _) rfl (fun K hK => ?_) Go.AllReadyH.nil
    have HKX := Lib.hid hK
    clear hK
    go_simp
    go_at_call 48
    refine (KT.out _).mono ?_
    rintro e w8 ⟨rfl, hb8⟩
    have HB8 := Lib.hid (HB7.out.trans (hb8.mono HB7.out.size))
    clear hb8
    have k2s := HCL.out _ HB8.out
    refine HKX.out.out _ _ k2s (fun hHeld => ?_)
    clear HKX
    try simp only [Act.put, List.getElem_toArray, List.getElem_cons_succ, List.getElem_cons_zero, List.setIfInBounds_toArray, List.set_cons_zero, List.set_cons_succ]
    refine Go.wpAnyH_take (fuel := 24) (i := 20) (oi := _) (v := ?_) rfl (by kernel_rfl) (by kernel_rfl) (by kernel_rfl) (fun _ _ _ h => h) (Or.inl ⟨by rfl, ?_⟩) (by first | exact hHeld | assumption) ?_
    rotate_left
    · (intro w hSw; (try dsimp only at hSw); (try unfold SN at hSw); go_simp)
      try with_reducible rfl
    try simp only [Act.put, List.getElem_toArray, List.getElem_cons_succ, List.getElem_cons_zero, List.setIfInBounds_toArray, List.set_cons_zero, List.set_cons_succ]
    refine Go.wpAnyH_take (fuel := 23) (i := 21) (oi := _) (v := ?_) rfl (by kernel_rfl) (by kernel_rfl) (by kernel_rfl) (fun _ _ _ h => h) (Or.inl ⟨by rfl, ?_⟩) (by first | exact hHeld | assumption) ?_
    rotate_left
    · (intro w hSw; (try dsimp only at hSw); (try unfold SN at hSw); go_simp)
      try with_reducible rfl
    try simp only [Act.put, List.getElem_toArray, List.getElem_cons_succ, List.getElem_cons_zero, List.setIfInBounds_toArray, List.set_cons_zero, List.set_cons_succ]
    refine Go.wpAnyH_take (fuel := 22) (i := 22) (oi := _) (v := ?_) rfl (by kernel_rfl) (by kernel_rfl) (by kernel_rfl) (fun _ _ _ h => h) (Or.inl ⟨by rfl, ?_⟩) (by first | exact hHeld | assumption) ?_
    rotate_left
    · (intro w hSw; (try dsimp only at hSw); (try unfold SN at hSw); go_simp)
      try with_reducible rfl
    try simp only [Act.put, List.getElem_toArray, List.getElem_cons_succ, List.getElem_cons_zero, List.setIfInBounds_toArray, List.set_cons_zero, List.set_cons_succ]
    refine Go.wpAnyH_take (fuel := 21) (i := 23) (oi := _) (v := ?_) rfl (by kernel_rfl) (by kernel_rfl) (by kernel_rfl) (fun _ _ _ h => h) (Or.inl ⟨by rfl, ?_⟩) (by first | exact hHeld | assumption) ?_
    rotate_left
    · (intro w hSw; (try dsimp only at hSw); (try unfold SN at hSw); go_simp)
      try with_reducible rfl
    try simp only [Act.put, List.getElem_toArray, List.getElem_cons_succ, List.getElem_cons_zero, List.setIfInBounds_toArray, List.set_cons_zero, List.set_cons_succ]
    refine Go.wpAnyH_take (fuel := 20) (i := 24) (oi := _) (v := ?_) rfl (by kernel_rfl) (by kernel_rfl) (by kernel_rfl) (fun _ _ _ h => h) (Or.inl ⟨by rfl, ?_⟩) (by first | exact hHeld | assumption) ?_
    rotate_left
    · (intro w hSw; (try dsimp only at hSw); (try unfold SN at hSw); go_simp)
      try with_reducible rfl
    try simp only [Act.put, List.getElem_toArray, List.getElem_cons_succ, List.getElem_cons_zero, List.setIfInBounds_toArray, List.set_cons_zero, List.set_cons_succ]
    refine Go.wpAnyH_take (fuel := 19) (i := 25) (oi := _) (v := ?_) rfl (by kernel_rfl) (by kernel_rfl) (by kernel_rfl) (fun _ _ _ h => h) (Or.inl ⟨by rfl, ?_⟩) (by first | exact hHeld | assumption) ?_
    rotate_left
    · (intro w hSw; (try dsimp only at hSw); (try unfold SN at hSw); go_simp)
      try with_reducible rfl
    try simp only [Act.put, List.getElem_toArray, List.getElem_cons_succ, List.getElem_cons_zero, List.setIfInBounds_toArray, List.set_cons_zero, List.set_cons_succ]
    refine Go.wpAnyH_take (fuel := 18) (i := 26) (oi := _) (v := undef) rfl (by kernel_rfl) (by kernel_rfl) (by kernel_rfl) (fun _ _ _ h => h) (Or.inr ⟨by rfl, rfl⟩) (by first | exact hHeld | assumption) ?_
    try simp only [Act.put, List.getElem_toArray, List.getElem_cons_succ, List.getElem_cons_zero, List.setIfInBounds_toArray, List.set_cons_zero, List.set_cons_succ]
    refine Go.wpAnyH_take (fuel := 17) (i := 27) (oi := _) (v := undef) rfl (by kernel_rfl) (by kernel_rfl) (by kernel_rfl) (fun _ _ _ h => h) (Or.inr ⟨by rfl, rfl⟩) (by first | exact hHeld | assumption) ?_
    try simp only [Act.put, List.getElem_toArray, List.getElem_cons_succ, List.getElem_cons_zero, List.setIfInBounds_toArray, List.set_cons_zero, List.set_cons_succ]
    refine Go.wpAnyH_take (fuel := 16) (i := 28) (oi := _) (v := undef) rfl (by kernel_rfl) (by kernel_rfl) (by kernel_rfl) (fun _ _ _ h => h) (Or.inr ⟨by rfl, rfl⟩) (by first | exact hHeld | assumption) ?_
    try simp only [Act.put, List.getElem_toArray, List.getElem_cons_succ, List.getElem_cons_zero, List.setIfInBounds_toArray, List.set_cons_zero, List.set_cons_succ]
    refine Go.wpAnyH_take (fuel := 15) (i := 29) (oi := _) (v := undef) rfl (by kernel_rfl) (by kernel_rfl) (by kernel_rfl) (fun _ _ _ h => h) (Or.inr ⟨by rfl, rfl⟩) (by first | exact hHeld | assumption) ?_
    try simp only [Act.put, List.getElem_toArray, List.getElem_cons_succ, List.getElem_cons_zero, List.setIfInBounds_toArray, List.set_cons_zero, List.set_cons_succ]
    refine Go.wpAnyH_take (fuel := 14) (i := 30) (oi := _) (v := undef) rfl (by kernel_rfl) (by kernel_rfl) (by kernel_rfl) (fun _ _ _ h => h) (Or.inr ⟨by rfl, rfl⟩) (by first | exact hHeld | assumption) ?_
    try simp only [Act.put, List.getElem_toArray, List.getElem_cons_succ, List.getElem_cons_zero, List.setIfInBounds_toArray, List.set_cons_zero, List.set_cons_succ]
    refine Go.wpAnyH_take (fuel := 13) (i := 31) (oi := _) (v := ?_) rfl (by kernel_rfl) (by kernel_rfl) (by kernel_rfl) (fun _ _ _ h => h) (Or.inl ⟨by rfl, ?_⟩) (by first | exact hHeld | assumption) ?_
    rotate_left
    · (intro w hSw; (try dsimp only at hSw); (try unfold SN at hSw); go_simp)
      try with_reducible rfl
    try simp only [Act.put, List.getElem_toArray, List.getElem_cons_succ, List.getElem_cons_zero, List.setIfInBounds_toArray, List.set_cons_zero, List.set_cons_succ]
    refine Go.wpAnyH_take (fuel := 12) (i := 32) (oi := _) (v := ?_) rfl (by kernel_rfl) (by kernel_rfl) (by kernel_rfl) (fun _ _ _ h => h) (Or.inl ⟨by rfl, ?_⟩) (by first | exact hHeld | assumption) ?_
    rotate_left
    · (intro w hSw; (try dsimp only at hSw); (try unfold SN at hSw); go_simp)
      try with_reducible rfl
    try simp only [Act.put, List.getElem_toArray, List.getElem_cons_succ, List.getElem_cons_zero, List.setIfInBounds_toArray, List.set_cons_zero, List.set_cons_succ]
    refine Go.wpAnyH_take (fuel := 11) (i := 33) (oi := _) (v := undef) rfl (by kernel_rfl) (by kernel_rfl) (by kernel_rfl) (fun _ _ _ h => h) (Or.inr ⟨by rfl, rfl⟩) (by first | exact hHeld | assumption) ?_
    try simp only [Act.put, List.getElem_toArray, List.getElem_cons_succ, List.getElem_cons_zero, List.setIfInBounds_toArray, List.set_cons_zero, List.set_cons_succ]
    refine Go.wpAnyH_take (fuel := 10) (i := 34) (oi := _) (v := undef) rfl (by kernel_rfl) (by kernel_rfl) (by kernel_rfl) (fun _ _ _ h => h) (Or.inr ⟨by rfl, rfl⟩) (by first | exact hHeld | assumption) ?_
    try simp only [Act.put, List.getElem_toArray, List.getElem_cons_succ, List.getElem_cons_zero, List.setIfInBounds_toArray, List.set_cons_zero, List.set_cons_succ]
    refine Go.wpAnyH_take (fuel := 9) (i := 35) (oi := _) (v := undef) rfl (by kernel_rfl) (by kernel_rfl) (by kernel_rfl) (fun _ _ _ h => h) (Or.inr ⟨by rfl, rfl⟩) (by first | exact hHeld | assumption) ?_
    try simp only [Act.put, List.getElem_toArray, List.getElem_cons_succ, List.getElem_cons_zero, List.setIfInBounds_toArray, List.set_cons_zero, List.set_cons_succ]
    refine Go.wpAnyH_take (fuel := 8) (i := 36) (oi := _) (v := undef) rfl (by kernel_rfl) (by kernel_rfl) (by kernel_rfl) (fun _ _ _ h => h) (Or.inr ⟨by rfl, rfl⟩) (by first | exact hHeld | assumption) ?_
    try simp only [Act.put, List.getElem_toArray, List.getElem_cons_succ, List.getElem_cons_zero, List.setIfInBounds_toArray, List.set_cons_zero, List.set_cons_succ]
    refine Go.wpAnyH_take (fuel := 7) (i := 37) (oi := _) (v := undef) rfl (by kernel_rfl) (by kernel_rfl) (by kernel_rfl) (fun _ _ _ h => h) (Or.inr ⟨by rfl, rfl⟩) (by first | exact hHeld | assumption) ?_
    try simp only [Act.put, List.getElem_toArray, List.getElem_cons_succ, List.getElem_cons_zero, List.setIfInBounds_toArray, List.set_cons_zero, List.set_cons_succ]
    refine Go.wpAnyH_take (fuel := 6) (i := 38) (oi := _) (v := undef) rfl (by kernel_rfl) (by kernel_rfl) (by kernel_rfl) (fun _ _ _ h => h) (Or.inr ⟨by rfl, rfl⟩) (by first | exact hHeld | assumption) ?_
    try simp only [Act.put, List.getElem_toArray, List.getElem_cons_succ, List.getElem_cons_zero, List.setIfInBounds_toArray, List.set_cons_zero, List.set_cons_succ]
    refine Go.wpAnyH_take (fuel := 5) (i := 39) (oi := _) (v := undef) rfl (by kernel_rfl) (by kernel_rfl) (by kernel_rfl) (fun _ _ _ h => h) (Or.inr ⟨by rfl, rfl⟩) (by first | exact hHeld | assumption) ?_
    try simp only [Act.put, List.getElem_toArray, List.getElem_cons_succ, List.getElem_cons_zero, List.setIfInBounds_toArray, List.set_cons_zero, List.set_cons_succ]
    refine Go.wpAnyH_take (fuel := 4) (i := 40) (oi := _) (v := undef) rfl (by kernel_rfl) (by kernel_rfl) (by kernel_rfl) (fun _ _ _ h => h) (Or.inr ⟨by rfl, rfl⟩) (by first | exact hHeld | assumption) ?_
    try simp only [Act.put, List.getElem_toArray, List.getElem_cons_succ, List.getElem_cons_zero, List.setIfInBounds_toArray, List.set_cons_zero, List.set_cons_succ]
    refine Go.wpAnyH_take (fuel := 3) (i := 41) (oi := _) (v := undef) rfl (by kernel_rfl) (by kernel_rfl) (by kernel_rfl) (fun _ _ _ h => h) (Or.inr ⟨by rfl, rfl⟩) (by first | exact hHeld | assumption) ?_
    try simp only [Act.put, List.getElem_toArray, List.getElem_cons_succ, List.getElem_cons_zero, List.setIfInBounds_toArray, List.set_cons_zero, List.set_cons_succ]
    refine Go.wpAnyH_take (fuel := 2) (i := 42) (oi := _) (v := ?_) rfl (by kernel_rfl) (by kernel_rfl) (by kernel_rfl) (fun _ _ _ h => h) (Or.inl ⟨by rfl, ?_⟩) (by first | exact hHeld | assumption) ?_
    rotate_left
    · (intro w hSw; (try dsimp only at hSw); (try unfold SN at hSw); go_simp)
      try with_reducible rfl
    try simp only [Act.put, List.getElem_toArray, List.getElem_cons_succ, List.getElem_cons_zero, List.setIfInBounds_toArray, List.set_cons_zero, List.set_cons_succ]
    refine Go.wpAnyH_take (fuel := 1) (i := 43) (oi := _) (v := ?_) rfl (by kernel_rfl) (by kernel_rfl) (by kernel_rfl) (fun _ _ _ h => h) (Or.inl ⟨by rfl, ?_⟩) (by first | exact hHeld | assumption) ?_
    rotate_left
    · (intro w hSw; (try dsimp only at hSw); (try unfold SN at hSw); go_simp)
      try with_reducible rfl
    try simp only [Act.put, List.getElem_toArray, List.getElem_cons_succ, List.getElem_cons_zero, List.setIfInBounds_toArray, List.set_cons_zero, List.set_cons_succ]
    refine Go.wpAnyH_take (fuel := 0) (i := 44) (oi := _) (v := ?_) rfl (by kernel_rfl) (by kernel_rfl) (by kernel_rfl) (fun _ _ _ h => h) (Or.inl ⟨by rfl, ?_⟩) (by first | exact hHeld | assumption) ?_
    rotate_left
    · (intro w hSw; (try dsimp only at hSw); (try unfold SN at hSw); go_simp)
      try with_reducible rfl
    try simp only [Act.put, List.getElem_toArray, List.getElem_cons_succ, List.getElem_cons_zero, List.setIfInBounds_toArray, List.set_cons_zero, List.set_cons_succ]
    refine Go.wpAnyH_done (by kernel_rfl) ?_ _
    have HFIN := Lib.hid (HB6.out.trans (HB8.out.mono HB6.out.size))
    clear HCL KW KT s0 k1s k2s  HB7 HB8 HB6 p0 p1 p2 p3 p4 p5 o0 o1 m0 m1 HSH
    go_wp2
    go_ret
    exact ⟨rfl, HFIN.out⟩
set_option maxRecDepth 100000 in
set_option maxHeartbeats 16000000 in
theorem good_four (h : SV b0 w Z W H AC cC l turn σ D) {i : Nat} (hi : i < 6) {g : Slt} (hg : σ i = some g) {r : Rnd} (kp : Calls Try.prog 14 #[.pointer (some ⟨Z, 0, none⟩), .int .i64 i] w fun e w' => AnsSays 4 r w e w') {R0 : List Rnd} (hr : g.s.rds = R0 ++ [r]) :
    Calls Try.prog 22 #[.pointer (some ⟨Z, 0, none⟩), .int .i64 i, .int .i64 g.f, .int .i64 g.F.tt] w fun e w' => e = .returned (.bool true) ∧ Below w.heap.size w w' := by
  have SV0 := Lib.hid h
  have HG := Lib.hid hg
  have KP := Lib.hid kp
  have hl64 := size_bd h.good
  clear h hg kp
  have HR := Lib.hid hr
  clear hr
  go_enter Try.func22, Try.ntmps22
  go_wp2_with fail
  refine KP.out.mono ?_
  rintro e w1 ⟨A1, c1, rfl, own1, hb1⟩
  have HB1 := Lib.hid hb1
  have OW1 := Lib.hid own1
  clear hb1 own1 KP
  go_upto_region 2 with fail
  have hbx := heap_alloc_new w1 (.cells #[.int .i64 4, .int .i64 r.num, .int .i64 r.den, .slice A1 r.path.length c1, .int .i64 r.cost, .int .i64 r.done] 45)
  have h12 : Below w1.heap.size w1 (w1.alloc (.cells #[.int .i64 4, .int .i64 r.num, .int .i64 r.den, .slice A1 r.path.length c1, .int .i64 r.cost, .int .i64 r.done] 45)) := (Below.refl _ _).alloc (Nat.le_refl _) _
  have HB2 := Lib.hid (HB1.out.trans (h12.mono HB1.out.size))
  have OW2 := Lib.hid (OW1.out.keep h12)
  generalize w1.alloc (.cells #[.int .i64 4, .int .i64 r.num, .int .i64 r.den, .slice A1 r.path.length c1, .int .i64 r.cost, .int .i64 r.done] 45) = w2 at hbx HB2 OW2 ⊢
  generalize w1.heap.size = XA at hbx ⊢
  have HBX := Lib.hid hbx
  have SV2 := Lib.hid (SV0.out.keep HB2.out)
  obtain ⟨z0, z1, z2, _, _, zp⟩ := SV2.out.zs
  have kg := Serve.ground_any Z W H AC cC l w2 SV2.out.cells.sl.2 SV2.out.nil_ (by omega) z0 z1 z2 zp
  have KG := Lib.hid kg
  clear kg hbx h12 HB1 OW1 z0 z1 z2 zp
  go_wp2_with fail
  refine KG.out.mono ?_
  rintro e w3 ⟨A3, c3, rfl, own3, hb3⟩
  have kof := NetOf.of_yes W H A3 c3 l w3 own3.sl.2 SV2.out.good
  have KOF := Lib.hid kof
  have HB3 := Lib.hid (HB2.out.trans (hb3.mono HB2.out.size))
  have OW3 := Lib.hid (OW2.out.keep hb3)
  have HBX3 := Lib.hid (blk_below HBX.out hb3 (lt_of_block HBX.out))
  clear kof own3 hb3 KG HB2 OW2 HBX
  go_wp2_with fail
  refine KOF.out.mono ?_
  rintro e w4 ⟨A4, c4, rfl, own4, hb4⟩
  have HB4 := Lib.hid (HB3.out.trans (hb4.mono HB3.out.size))
  have OW4 := Lib.hid (OW3.out.keep hb4)
  have HBX4 := Lib.hid (blk_below HBX3.out hb4 (lt_of_block HBX3.out))
  have ON4 := Lib.hid own4
  clear own4 hb4 KOF HB3 OW3 HBX3
  go_upto_region 3 with fail
  have hbn := heap_alloc_new w4 (.cells #[.int .i64 l.length, .slice A4 (allM W H l l.length).length c4] 52)
  have h45 : Below w4.heap.size w4 (w4.alloc (.cells #[.int .i64 l.length, .slice A4 (allM W H l l.length).length c4] 52)) := (Below.refl _ _).alloc (Nat.le_refl _) _
  have HB5 := Lib.hid (HB4.out.trans (h45.mono HB4.out.size))
  have OW5 := Lib.hid (OW4.out.keep h45)
  have ON5 := Lib.hid (ON4.out.keep h45)
  have hbx := blk_below HBX4.out h45 (lt_of_block HBX4.out)
  generalize w4.alloc (.cells #[.int .i64 l.length, .slice A4 (allM W H l l.length).length c4] 52) = w5 at hbn HB5 OW5 ON5 hbx ⊢
  generalize w4.heap.size = XN at hbn ⊢
  clear h45 HB4 OW4 ON4 HBX4
  have q0 := blk_cell hbx 0
  have q1 := blk_cell hbx 1
  have q2 := blk_cell hbx 2
  have q3 := blk_cell hbx 3
  have q4 := blk_cell hbx 4
  have q5 := blk_cell hbx 5
  have zq := lt_of_block hbx
  simp only [List.getElem?_toArray, List.getElem?_cons_zero, List.getElem?_cons_succ] at q0 q1 q2 q3 q4 q5
  have n0 := blk_cell hbn 0
  have n1 := blk_cell hbn 1
  have zn := lt_of_block hbn
  simp only [List.getElem?_toArray, List.getElem?_cons_zero, List.getElem?_cons_succ] at n0 n1
  have hsl := SV2.out.slot i hi g HG.out
  obtain ⟨e1, e2, e3⟩ := hsl.net
  have hgood := hsl.fo.gd
  have hpos := hsl.fo.c1
  have htl := hsl.fo.tt
  have hfl := hsl.po.fr
  rw [e1, e2] at hgood
  rw [e2] at hpos
  rw [e1] at htl hfl
  have hlk : Dijk.look l.length (allM W H l l.length) [(g.f : Int)] = 0 := by
    have h1 := pos_goodS hgood hpos
    rw [Dijk.look, if_neg (by simpa using h1)]
    exact lookE_zeroS.2 (by intro y hy; simp at hy; omega)
  have hla : (allM W H l l.length).length ≤ 9223372036854775807 := by have := hgood.len; omega
  have kd := dist_yes l.length A4 c4 (allM W H l l.length) g.f hla hlk w5 ON5.out.sl.2
  rw [Int.toNat_natCast] at kd
  have KD := Lib.hid kd
  have HSL := Lib.hid hsl
  have HTL := Lib.hid htl
  have HLA := Lib.hid hla
  clear e1 e2 e3 hgood hpos hfl hlk kd hsl hbn hbx hla
  go_wp2_with fail
  refine KD.out.mono ?_
  rintro e w6 ⟨S6, M, rfl, own6, hb6, HSH⟩
  have hMl : M.length = l.length := own6.sl.1.symm
  obtain ⟨m0, m1⟩ := own_atG (0 : Int) hMl own6 htl
  simp only [ci] at m0
  have HB6 := Lib.hid (HB5.out.trans (hb6.mono HB5.out.size))
  have ON6 := Lib.hid (ON5.out.keep hb6)
  have OW6 := Lib.hid (OW5.out.keep hb6)
  have p0 := (hb6.cell (p := ⟨XA, 0, none⟩) zq).trans q0
  have p1 := (hb6.cell (p := ⟨XA, 1, none⟩) zq).trans q1
  have p2 := (hb6.cell (p := ⟨XA, 2, none⟩) zq).trans q2
  have p3 := (hb6.cell (p := ⟨XA, 3, none⟩) zq).trans q3
  have p4 := (hb6.cell (p := ⟨XA, 4, none⟩) zq).trans q4
  have p5 := (hb6.cell (p := ⟨XA, 5, none⟩) zq).trans q5
  have o0 := (hb6.cell (p := ⟨XN, 0, none⟩) zn).trans n0
  have o1 := (hb6.cell (p := ⟨XN, 1, none⟩) zn).trans n1
  have zq6 := Nat.lt_of_lt_of_le zq hb6.size
  have zn6 := Nat.lt_of_lt_of_le zn hb6.size
  have zs6 : S6 < w6.heap.size := (own6.base_ S6 rfl).2
  have hfacts := SL.last HSL.out HSH.out HR.out
  obtain ⟨hlo, hhi⟩ := HSH.out.lo g.F.tt (by omega) (by omega)
  have hdm : dg M (g.F.tt : Int) = M.getD g.F.tt 0 := by unfold dg; simp
  rw [hdm] at hfacts hlo hhi
  generalize M.getD g.F.tt 0 = mt at *
  have ztt : (g.F.tt : Int) < (l.length : Int) := by omega
  clear q0 q1 q2 q3 q4 q5 n0 n1 hb6 own6 zq zn hdm KD hMl htl
  by_cases hfar : mt = far
  · have hc := (hfacts.1 hfar).1
    have hfar' : mt = 1099511627776 := hfar
    subst hfar'
    rw [hc] at p4
    change w6.cell? _ = some (.int .i64 1099511627776) at p4
    clear hfacts hlo hhi hfar hc
    go_wp2
    go_ret
    exact ⟨rfl, HB6.out⟩
  · have hlt : mt < far := by omega
    obtain ⟨_, h2, ⟨d1, d2⟩, u1, u2⟩ := hfacts
    obtain ⟨⟨c0, cf⟩, hcost, hhd, hla, hpl, hw, hge⟩ := h2 hlt
    have hfar' : (mt == 1099511627776) = false := by rw [beq_eq_false_iff_ne]; exact hfar
    generalize hco : r.cost = co at *
    generalize hP : r.num = p at *
    generalize hQ : r.den = q at *
    have hff : far = 1099511627776 := rfl
    have hq1 : 0 ≤ co * q := Int.mul_nonneg c0 (by omega)
    have hq2 : co * q ≤ 1099511627776 * 1000000 := Int.mul_le_mul (by omega) (by omega) (by omega) (by omega)
    have hq3 : 0 ≤ p * mt := Int.mul_nonneg (by omega) (by omega)
    have hq4 : p * mt ≤ 1000000 * 1099511627776 := Int.mul_le_mul (by omega) (by omega) (by omega) (by omega)
    have kw := fun W' (hW : Below w6.heap.size w6 W') => walks_any l.length co g.f g.F.tt A4 c4 (allM W H l l.length) A1 r.path.length c1 r.path W' ((ON6.out.keep hW).sl.2) ((OW6.out.keep hW).sl.2) rfl HLA.out (by omega) hcost hhd hla
    have kt := fun W' => times_any co p q mt W' (by omega) (by omega) (by rw [Int.mul_comm]; exact hw)
    have hcl : ∀ W', Below w6.heap.size w6 W' → W'.cell? ⟨XN, 0, none⟩ = some (.int .i64 l.length) ∧ W'.cell? ⟨XN, 1, none⟩ = some (.slice A4 (allM W H l l.length).length c4) ∧ W'.cell? ⟨XA, 0, none⟩ = some (.int .i64 4) ∧ W'.cell? ⟨XA, 1, none⟩ = some (.int .i64 p) ∧ W'.cell? ⟨XA, 2, none⟩ = some (.int .i64 q) ∧ W'.cell? ⟨XA, 3, none⟩ = some (.slice A1 r.path.length c1) ∧ W'.cell? ⟨XA, 4, none⟩ = some (.int .i64 co) ∧ W'.cell? ⟨S6, g.F.tt, none⟩ = some (.int .i64 mt) := fun W' hW => ⟨(hW.cell (p := ⟨XN, 0, none⟩) zn6).trans o0, (hW.cell (p := ⟨XN, 1, none⟩) zn6).trans o1, (hW.cell (p := ⟨XA, 0, none⟩) zq6).trans p0, (hW.cell (p := ⟨XA, 1, none⟩) zq6).trans p1, (hW.cell (p := ⟨XA, 2, none⟩) zq6).trans p2, (hW.cell (p := ⟨XA, 3, none⟩) zq6).trans p3, (hW.cell (p := ⟨XA, 4, none⟩) zq6).trans p4, (hW.cell (p := ⟨S6, g.F.tt, none⟩) zs6).trans m0⟩
    have KW := Lib.hid kw
    have KT := Lib.hid kt
    have HCL := Lib.hid hcl
    have HW2 := Lib.hid hw
    have HGE := Lib.hid hge
    have HCO := Lib.hid (And.intro hco (And.intro hP hQ))
    clear kw kt hcl hq1 hq2 hq3 hq4 hw hge hcost hhd hla hpl c0 cf d1 d2 u1 u2 hlt hff hco hP hQ h2 hfar hlo hhi
    go_upto_region 12 with fail
    have s0 := HCL.out w6.drew (Below.refl _ _).drew
    by_cases hp1 : p = 1
    · subst hp1
      by_cases hq1 : q = 1
      · subst hq1
        have hcm : co = mt := by have h1 := HW2.out; have h2 := HGE.out; omega
        subst hcm
        refine Go.wp_region_held_drew (S := (fun w' => w'.cell? ⟨XN, 0, none⟩ = some (.int .i64 l.length) ∧ w'.cell? ⟨XN, 1, none⟩ = some (.slice A4 (allM W H l l.length).length c4) ∧ w'.cell? ⟨XA, 0, none⟩ = some (.int .i64 4) ∧ w'.cell? ⟨XA, 1, none⟩ = some (.int .i64 1) ∧ w'.cell? ⟨XA, 2, none⟩ = some (.int .i64 1) ∧ w'.cell? ⟨XA, 3, none⟩ = some (.slice A1 r.path.length c1) ∧ w'.cell? ⟨XA, 4, none⟩ = some (.int .i64 co) ∧ w'.cell? ⟨S6, g.F.tt, none⟩ = some (.int .i64 co))) (by kernel_rfl) s0 (fun hHeld => ?_)
        refine Go.wpAnyH_take (fuel := 44) (i := 0) (oi := _) (v := ?_) rfl (by kernel_rfl) (by kernel_rfl) (by kernel_rfl) (fun _ _ _ h => h) (Or.inl ⟨by rfl, ?_⟩) (by first | exact hHeld | assumption) ?_
        rotate_left
        · (intro w hSw; (try dsimp only at hSw); (try unfold SN at hSw); go_simp)
          try with_reducible rfl
        try simp only [Act.put, List.getElem_toArray, List.getElem_cons_succ, List.getElem_cons_zero, List.setIfInBounds_toArray, List.set_cons_zero, List.set_cons_succ]
        refine Go.wpAnyH_take (fuel := 43) (i := 1) (oi := _) (v := ?_) rfl (by kernel_rfl) (by kernel_rfl) (by kernel_rfl) (fun _ _ _ h => h) (Or.inl ⟨by rfl, ?_⟩) (by first | exact hHeld | assumption) ?_
        rotate_left
        · (intro w hSw; (try dsimp only at hSw); (try unfold SN at hSw); go_simp)
          try with_reducible rfl
        try simp only [Act.put, List.getElem_toArray, List.getElem_cons_succ, List.getElem_cons_zero, List.setIfInBounds_toArray, List.set_cons_zero, List.set_cons_succ]
        refine Go.wpAnyH_take (fuel := 42) (i := 2) (oi := _) (v := ?_) rfl (by kernel_rfl) (by kernel_rfl) (by kernel_rfl) (fun _ _ _ h => h) (Or.inl ⟨by rfl, ?_⟩) (by first | exact hHeld | assumption) ?_
        rotate_left
        · (intro w hSw; (try dsimp only at hSw); (try unfold SN at hSw); go_simp)
          try with_reducible rfl
        try simp only [Act.put, List.getElem_toArray, List.getElem_cons_succ, List.getElem_cons_zero, List.setIfInBounds_toArray, List.set_cons_zero, List.set_cons_succ]
        refine Go.wpAnyH_take (fuel := 41) (i := 3) (oi := _) (v := ?_) rfl (by kernel_rfl) (by kernel_rfl) (by kernel_rfl) (fun _ _ _ h => h) (Or.inl ⟨by rfl, ?_⟩) (by first | exact hHeld | assumption) ?_
        rotate_left
        · (intro w hSw; (try dsimp only at hSw); (try unfold SN at hSw); go_simp)
          try with_reducible rfl
        try simp only [Act.put, List.getElem_toArray, List.getElem_cons_succ, List.getElem_cons_zero, List.setIfInBounds_toArray, List.set_cons_zero, List.set_cons_succ]
        refine Go.wpAnyH_take (fuel := 40) (i := 4) (oi := _) (v := ?_) rfl (by kernel_rfl) (by kernel_rfl) (by kernel_rfl) (fun _ _ _ h => h) (Or.inl ⟨by rfl, ?_⟩) (by first | exact hHeld | assumption) ?_
        rotate_left
        · (intro w hSw; (try dsimp only at hSw); (try unfold SN at hSw); go_simp)
          try with_reducible rfl
        try simp only [Act.put, List.getElem_toArray, List.getElem_cons_succ, List.getElem_cons_zero, List.setIfInBounds_toArray, List.set_cons_zero, List.set_cons_succ]
        refine Go.wpAnyH_take (fuel := 39) (i := 5) (oi := _) (v := ?_) rfl (by kernel_rfl) (by kernel_rfl) (by kernel_rfl) (fun _ _ _ h => h) (Or.inl ⟨by rfl, ?_⟩) (by first | exact hHeld | assumption) ?_
        rotate_left
        · (intro w hSw; (try dsimp only at hSw); (try unfold SN at hSw); go_simp)
          try with_reducible rfl
        try simp only [Act.put, List.getElem_toArray, List.getElem_cons_succ, List.getElem_cons_zero, List.setIfInBounds_toArray, List.set_cons_zero, List.set_cons_succ]
        refine Go.wpAnyH_ready (fuel := 38) (rs := [6]) (by kernel_rfl) (by simp) ?_
        refine Go.AllReadyH.cons (o := _) rfl (fun K hK => ?_) Go.AllReadyH.nil
        have HKX := Lib.hid hK
        clear hK
        go_simp
        go_at_call 47
        refine (KW.out _ (Below.refl _ _).drew).mono ?_
        rintro e w7 ⟨rfl, hb7⟩
        have HB7 := Lib.hid ((Below.refl w6.heap.size w6).drew.trans (hb7.mono (Nat.le_refl _)))
        clear hb7
        have k1s := HCL.out _ HB7.out
        refine HKX.out.out _ _ k1s (fun hHeld => ?_)
        clear HKX
        try simp only [Act.put, List.getElem_toArray, List.getElem_cons_succ, List.getElem_cons_zero, List.setIfInBounds_toArray, List.set_cons_zero, List.set_cons_succ]
        refine Go.wpAnyH_take (fuel := 37) (i := 7) (oi := _) (v := ?_) rfl (by kernel_rfl) (by kernel_rfl) (by kernel_rfl) (fun _ _ _ h => h) (Or.inl ⟨by rfl, ?_⟩) (by first | exact hHeld | assumption) ?_
        rotate_left
        · (intro w hSw; (try dsimp only at hSw); (try unfold SN at hSw); go_simp)
          try with_reducible rfl
        try simp only [Act.put, List.getElem_toArray, List.getElem_cons_succ, List.getElem_cons_zero, List.setIfInBounds_toArray, List.set_cons_zero, List.set_cons_succ]
        refine Go.wpAnyH_take (fuel := 36) (i := 8) (oi := _) (v := ?_) rfl (by kernel_rfl) (by kernel_rfl) (by kernel_rfl) (fun _ _ _ h => h) (Or.inl ⟨by rfl, ?_⟩) (by first | exact hHeld | assumption) ?_
        rotate_left
        · (intro w hSw; (try dsimp only at hSw); (try unfold SN at hSw); go_simp)
          try with_reducible rfl
        try simp only [Act.put, List.getElem_toArray, List.getElem_cons_succ, List.getElem_cons_zero, List.setIfInBounds_toArray, List.set_cons_zero, List.set_cons_succ]
        refine Go.wpAnyH_take (fuel := 35) (i := 9) (oi := _) (v := ?_) rfl (by kernel_rfl) (by kernel_rfl) (by kernel_rfl) (fun _ _ _ h => h) (Or.inl ⟨by rfl, ?_⟩) (by first | exact hHeld | assumption) ?_
        rotate_left
        · (intro w hSw; (try dsimp only at hSw); (try unfold SN at hSw); go_simp)
          try with_reducible rfl
        try simp only [Act.put, List.getElem_toArray, List.getElem_cons_succ, List.getElem_cons_zero, List.setIfInBounds_toArray, List.set_cons_zero, List.set_cons_succ]
        refine Go.wpAnyH_take (fuel := 34) (i := 10) (oi := _) (v := ?_) rfl (by kernel_rfl) (by kernel_rfl) (by kernel_rfl) (fun _ _ _ h => h) (Or.inl ⟨by rfl, ?_⟩) (by first | exact hHeld | assumption) ?_
        rotate_left
        · (intro w hSw; (try dsimp only at hSw); (try unfold SN at hSw); go_simp)
          try with_reducible rfl
        try simp only [Act.put, List.getElem_toArray, List.getElem_cons_succ, List.getElem_cons_zero, List.setIfInBounds_toArray, List.set_cons_zero, List.set_cons_succ]
        refine Go.wpAnyH_take (fuel := 33) (i := 11) (oi := _) (v := ?_) rfl (by kernel_rfl) (by kernel_rfl) (by kernel_rfl) (fun _ _ _ h => h) (Or.inl ⟨by rfl, ?_⟩) (by first | exact hHeld | assumption) ?_
        rotate_left
        · (intro w hSw; (try dsimp only at hSw); (try unfold SN at hSw); go_simp)
          try with_reducible rfl
        try simp only [Act.put, List.getElem_toArray, List.getElem_cons_succ, List.getElem_cons_zero, List.setIfInBounds_toArray, List.set_cons_zero, List.set_cons_succ]
        refine Go.wpAnyH_take (fuel := 32) (i := 12) (oi := _) (v := ?_) rfl (by kernel_rfl) (by kernel_rfl) (by kernel_rfl) (fun _ _ _ h => h) (Or.inl ⟨by rfl, ?_⟩) (by first | exact hHeld | assumption) ?_
        rotate_left
        · (intro w hSw; (try dsimp only at hSw); (try unfold SN at hSw); go_simp)
          try with_reducible rfl
        try simp only [Act.put, List.getElem_toArray, List.getElem_cons_succ, List.getElem_cons_zero, List.setIfInBounds_toArray, List.set_cons_zero, List.set_cons_succ]
        refine Go.wpAnyH_take (fuel := 31) (i := 13) (oi := _) (v := ?_) rfl (by kernel_rfl) (by kernel_rfl) (by kernel_rfl) (fun _ _ _ h => h) (Or.inl ⟨by rfl, ?_⟩) (by first | exact hHeld | assumption) ?_
        rotate_left
        · (intro w hSw; (try dsimp only at hSw); (try unfold SN at hSw); go_simp)
          try with_reducible rfl
        try simp only [Act.put, List.getElem_toArray, List.getElem_cons_succ, List.getElem_cons_zero, List.setIfInBounds_toArray, List.set_cons_zero, List.set_cons_succ]
        refine Go.wpAnyH_take (fuel := 30) (i := 14) (oi := _) (v := ?_) rfl (by kernel_rfl) (by kernel_rfl) (by kernel_rfl) (fun _ _ _ h => h) (Or.inl ⟨by rfl, ?_⟩) (by first | exact hHeld | assumption) ?_
        rotate_left
        · (intro w hSw; (try dsimp only at hSw); (try unfold SN at hSw); go_simp)
          try with_reducible rfl
        try simp only [Act.put, List.getElem_toArray, List.getElem_cons_succ, List.getElem_cons_zero, List.setIfInBounds_toArray, List.set_cons_zero, List.set_cons_succ]
        refine Go.wpAnyH_take (fuel := 29) (i := 15) (oi := _) (v := ?_) rfl (by kernel_rfl) (by kernel_rfl) (by kernel_rfl) (fun _ _ _ h => h) (Or.inl ⟨by rfl, ?_⟩) (by first | exact hHeld | assumption) ?_
        rotate_left
        · (intro w hSw; (try dsimp only at hSw); (try unfold SN at hSw); go_simp)
          try with_reducible rfl
        try simp only [Act.put, List.getElem_toArray, List.getElem_cons_succ, List.getElem_cons_zero, List.setIfInBounds_toArray, List.set_cons_zero, List.set_cons_succ]
        refine Go.wpAnyH_take (fuel := 28) (i := 16) (oi := _) (v := ?_) rfl (by kernel_rfl) (by kernel_rfl) (by kernel_rfl) (fun _ _ _ h => h) (Or.inl ⟨by rfl, ?_⟩) (by first | exact hHeld | assumption) ?_
        rotate_left
        · (intro w hSw; (try dsimp only at hSw); (try unfold SN at hSw); go_simp)
          try with_reducible rfl
        try simp only [Act.put, List.getElem_toArray, List.getElem_cons_succ, List.getElem_cons_zero, List.setIfInBounds_toArray, List.set_cons_zero, List.set_cons_succ]
        refine Go.wpAnyH_take (fuel := 27) (i := 17) (oi := _) (v := ?_) rfl (by kernel_rfl) (by kernel_rfl) (by kernel_rfl) (fun _ _ _ h => h) (Or.inl ⟨by rfl, ?_⟩) (by first | exact hHeld | assumption) ?_
        rotate_left
        · (intro w hSw; (try dsimp only at hSw); (try unfold SN at hSw); go_simp)
          try with_reducible rfl
        try simp only [Act.put, List.getElem_toArray, List.getElem_cons_succ, List.getElem_cons_zero, List.setIfInBounds_toArray, List.set_cons_zero, List.set_cons_succ]
        refine Go.wpAnyH_take (fuel := 26) (i := 18) (oi := _) (v := ?_) rfl (by kernel_rfl) (by kernel_rfl) (by kernel_rfl) (fun _ _ _ h => h) (Or.inl ⟨by rfl, ?_⟩) (by first | exact hHeld | assumption) ?_
        rotate_left
        · (intro w hSw; (try dsimp only at hSw); (try unfold SN at hSw); go_simp)
          try with_reducible rfl
        try simp only [Act.put, List.getElem_toArray, List.getElem_cons_succ, List.getElem_cons_zero, List.setIfInBounds_toArray, List.set_cons_zero, List.set_cons_succ]
        refine Go.wpAnyH_ready (fuel := 25) (rs := [19]) (by kernel_rfl) (by simp) ?_
        refine Go.AllReadyH.cons (o := _) rfl (fun K hK => ?_) Go.AllReadyH.nil
        have HKX := Lib.hid hK
        clear hK
        go_simp
        go_at_call 48
        refine (KT.out _).mono ?_
        rintro e w8 ⟨rfl, hb8⟩
        have HB8 := Lib.hid (HB7.out.trans (hb8.mono HB7.out.size))
        clear hb8
        have k2s := HCL.out _ HB8.out
        refine HKX.out.out _ _ k2s (fun hHeld => ?_)
        clear HKX
        try simp only [Act.put, List.getElem_toArray, List.getElem_cons_succ, List.getElem_cons_zero, List.setIfInBounds_toArray, List.set_cons_zero, List.set_cons_succ]
        refine Go.wpAnyH_take (fuel := 24) (i := 20) (oi := _) (v := ?_) rfl (by kernel_rfl) (by kernel_rfl) (by kernel_rfl) (fun _ _ _ h => h) (Or.inl ⟨by rfl, ?_⟩) (by first | exact hHeld | assumption) ?_
        rotate_left
        · (intro w hSw; (try dsimp only at hSw); (try unfold SN at hSw); go_simp)
          try with_reducible rfl
        try simp only [Act.put, List.getElem_toArray, List.getElem_cons_succ, List.getElem_cons_zero, List.setIfInBounds_toArray, List.set_cons_zero, List.set_cons_succ]
        refine Go.wpAnyH_take (fuel := 23) (i := 21) (oi := _) (v := ?_) rfl (by kernel_rfl) (by kernel_rfl) (by kernel_rfl) (fun _ _ _ h => h) (Or.inl ⟨by rfl, ?_⟩) (by first | exact hHeld | assumption) ?_
        rotate_left
        · (intro w hSw; (try dsimp only at hSw); (try unfold SN at hSw); go_simp)
          try with_reducible rfl
        try simp only [Act.put, List.getElem_toArray, List.getElem_cons_succ, List.getElem_cons_zero, List.setIfInBounds_toArray, List.set_cons_zero, List.set_cons_succ]
        refine Go.wpAnyH_take (fuel := 22) (i := 22) (oi := _) (v := ?_) rfl (by kernel_rfl) (by kernel_rfl) (by kernel_rfl) (fun _ _ _ h => h) (Or.inl ⟨by rfl, ?_⟩) (by first | exact hHeld | assumption) ?_
        rotate_left
        · (intro w hSw; (try dsimp only at hSw); (try unfold SN at hSw); go_simp)
          try with_reducible rfl
        try simp only [Act.put, List.getElem_toArray, List.getElem_cons_succ, List.getElem_cons_zero, List.setIfInBounds_toArray, List.set_cons_zero, List.set_cons_succ]
        refine Go.wpAnyH_take (fuel := 21) (i := 23) (oi := _) (v := ?_) rfl (by kernel_rfl) (by kernel_rfl) (by kernel_rfl) (fun _ _ _ h => h) (Or.inl ⟨by rfl, ?_⟩) (by first | exact hHeld | assumption) ?_
        rotate_left
        · (intro w hSw; (try dsimp only at hSw); (try unfold SN at hSw); go_simp)
          try with_reducible rfl
        try simp only [Act.put, List.getElem_toArray, List.getElem_cons_succ, List.getElem_cons_zero, List.setIfInBounds_toArray, List.set_cons_zero, List.set_cons_succ]
        refine Go.wpAnyH_take (fuel := 20) (i := 24) (oi := _) (v := ?_) rfl (by kernel_rfl) (by kernel_rfl) (by kernel_rfl) (fun _ _ _ h => h) (Or.inl ⟨by rfl, ?_⟩) (by first | exact hHeld | assumption) ?_
        rotate_left
        · (intro w hSw; (try dsimp only at hSw); (try unfold SN at hSw); go_simp)
          try with_reducible rfl
        try simp only [Act.put, List.getElem_toArray, List.getElem_cons_succ, List.getElem_cons_zero, List.setIfInBounds_toArray, List.set_cons_zero, List.set_cons_succ]
        refine Go.wpAnyH_take (fuel := 19) (i := 25) (oi := _) (v := ?_) rfl (by kernel_rfl) (by kernel_rfl) (by kernel_rfl) (fun _ _ _ h => h) (Or.inl ⟨by rfl, ?_⟩) (by first | exact hHeld | assumption) ?_
        rotate_left
        · (intro w hSw; (try dsimp only at hSw); (try unfold SN at hSw); go_simp)
          try with_reducible rfl
        try simp only [Act.put, List.getElem_toArray, List.getElem_cons_succ, List.getElem_cons_zero, List.setIfInBounds_toArray, List.set_cons_zero, List.set_cons_succ]
        refine Go.wpAnyH_take (fuel := 18) (i := 26) (oi := _) (v := ?_) rfl (by kernel_rfl) (by kernel_rfl) (by kernel_rfl) (fun _ _ _ h => h) (Or.inl ⟨by rfl, ?_⟩) (by first | exact hHeld | assumption) ?_
        rotate_left
        · (intro w hSw; (try dsimp only at hSw); (try unfold SN at hSw); go_simp)
          try with_reducible rfl
        try simp only [Act.put, List.getElem_toArray, List.getElem_cons_succ, List.getElem_cons_zero, List.setIfInBounds_toArray, List.set_cons_zero, List.set_cons_succ]
        refine Go.wpAnyH_take (fuel := 17) (i := 27) (oi := _) (v := ?_) rfl (by kernel_rfl) (by kernel_rfl) (by kernel_rfl) (fun _ _ _ h => h) (Or.inl ⟨by rfl, ?_⟩) (by first | exact hHeld | assumption) ?_
        rotate_left
        · (intro w hSw; (try dsimp only at hSw); (try unfold SN at hSw); go_simp)
          try with_reducible rfl
        try simp only [Act.put, List.getElem_toArray, List.getElem_cons_succ, List.getElem_cons_zero, List.setIfInBounds_toArray, List.set_cons_zero, List.set_cons_succ]
        refine Go.wpAnyH_take (fuel := 16) (i := 28) (oi := _) (v := ?_) rfl (by kernel_rfl) (by kernel_rfl) (by kernel_rfl) (fun _ _ _ h => h) (Or.inl ⟨by rfl, ?_⟩) (by first | exact hHeld | assumption) ?_
        rotate_left
        · (intro w hSw; (try dsimp only at hSw); (try unfold SN at hSw); go_simp)
          try with_reducible rfl
        try simp only [Act.put, List.getElem_toArray, List.getElem_cons_succ, List.getElem_cons_zero, List.setIfInBounds_toArray, List.set_cons_zero, List.set_cons_succ]
        refine Go.wpAnyH_ready (fuel := 15) (rs := [29]) (by kernel_rfl) (by simp) ?_
        refine Go.AllReadyH.cons (o := _) rfl (fun K hK => ?_) Go.AllReadyH.nil
        have HKX := Lib.hid hK
        clear hK
        go_simp
        go_at_call 21
        refine (one_anyA _).mono ?_
        rintro e w9 ⟨rfl, hb9⟩
        have HB9 := Lib.hid (HB8.out.trans (hb9.mono HB8.out.size))
        clear hb9
        have k3s := HCL.out _ HB9.out
        refine HKX.out.out _ _ k3s (fun hHeld => ?_)
        clear HKX
        try simp only [Act.put, List.getElem_toArray, List.getElem_cons_succ, List.getElem_cons_zero, List.setIfInBounds_toArray, List.set_cons_zero, List.set_cons_succ]
        refine Go.wpAnyH_take (fuel := 14) (i := 30) (oi := _) (v := ?_) rfl (by kernel_rfl) (by kernel_rfl) (by kernel_rfl) (fun _ _ _ h => h) (Or.inl ⟨by rfl, ?_⟩) (by first | exact hHeld | assumption) ?_
        rotate_left
        · (intro w hSw; (try dsimp only at hSw); (try unfold SN at hSw); go_simp)
          try with_reducible rfl
        try simp only [Act.put, List.getElem_toArray, List.getElem_cons_succ, List.getElem_cons_zero, List.setIfInBounds_toArray, List.set_cons_zero, List.set_cons_succ]
        refine Go.wpAnyH_take (fuel := 13) (i := 31) (oi := _) (v := ?_) rfl (by kernel_rfl) (by kernel_rfl) (by kernel_rfl) (fun _ _ _ h => h) (Or.inl ⟨by rfl, ?_⟩) (by first | exact hHeld | assumption) ?_
        rotate_left
        · (intro w hSw; (try dsimp only at hSw); (try unfold SN at hSw); go_simp)
          try with_reducible rfl
        try simp only [Act.put, List.getElem_toArray, List.getElem_cons_succ, List.getElem_cons_zero, List.setIfInBounds_toArray, List.set_cons_zero, List.set_cons_succ]
        refine Go.wpAnyH_take (fuel := 12) (i := 32) (oi := _) (v := ?_) rfl (by kernel_rfl) (by kernel_rfl) (by kernel_rfl) (fun _ _ _ h => h) (Or.inl ⟨by rfl, ?_⟩) (by first | exact hHeld | assumption) ?_
        rotate_left
        · (intro w hSw; (try dsimp only at hSw); (try unfold SN at hSw); go_simp)
          try with_reducible rfl
        try simp only [Act.put, List.getElem_toArray, List.getElem_cons_succ, List.getElem_cons_zero, List.setIfInBounds_toArray, List.set_cons_zero, List.set_cons_succ]
        refine Go.wpAnyH_take (fuel := 11) (i := 33) (oi := _) (v := ?_) rfl (by kernel_rfl) (by kernel_rfl) (by kernel_rfl) (fun _ _ _ h => h) (Or.inl ⟨by rfl, ?_⟩) (by first | exact hHeld | assumption) ?_
        rotate_left
        · (intro w hSw; (try dsimp only at hSw); (try unfold SN at hSw); go_simp)
          try with_reducible rfl
        try simp only [Act.put, List.getElem_toArray, List.getElem_cons_succ, List.getElem_cons_zero, List.setIfInBounds_toArray, List.set_cons_zero, List.set_cons_succ]
        refine Go.wpAnyH_take (fuel := 10) (i := 34) (oi := _) (v := ?_) rfl (by kernel_rfl) (by kernel_rfl) (by kernel_rfl) (fun _ _ _ h => h) (Or.inl ⟨by rfl, ?_⟩) (by first | exact hHeld | assumption) ?_
        rotate_left
        · (intro w hSw; (try dsimp only at hSw); (try unfold SN at hSw); go_simp)
          try with_reducible rfl
        try simp only [Act.put, List.getElem_toArray, List.getElem_cons_succ, List.getElem_cons_zero, List.setIfInBounds_toArray, List.set_cons_zero, List.set_cons_succ]
        refine Go.wpAnyH_take (fuel := 9) (i := 35) (oi := _) (v := ?_) rfl (by kernel_rfl) (by kernel_rfl) (by kernel_rfl) (fun _ _ _ h => h) (Or.inl ⟨by rfl, ?_⟩) (by first | exact hHeld | assumption) ?_
        rotate_left
        · (intro w hSw; (try dsimp only at hSw); (try unfold SN at hSw); go_simp)
          try with_reducible rfl
        try simp only [Act.put, List.getElem_toArray, List.getElem_cons_succ, List.getElem_cons_zero, List.setIfInBounds_toArray, List.set_cons_zero, List.set_cons_succ]
        refine Go.wpAnyH_take (fuel := 8) (i := 36) (oi := _) (v := ?_) rfl (by kernel_rfl) (by kernel_rfl) (by kernel_rfl) (fun _ _ _ h => h) (Or.inl ⟨by rfl, ?_⟩) (by first | exact hHeld | assumption) ?_
        rotate_left
        · (intro w hSw; (try dsimp only at hSw); (try unfold SN at hSw); go_simp)
          try with_reducible rfl
        try simp only [Act.put, List.getElem_toArray, List.getElem_cons_succ, List.getElem_cons_zero, List.setIfInBounds_toArray, List.set_cons_zero, List.set_cons_succ]
        refine Go.wpAnyH_take (fuel := 7) (i := 37) (oi := _) (v := ?_) rfl (by kernel_rfl) (by kernel_rfl) (by kernel_rfl) (fun _ _ _ h => h) (Or.inl ⟨by rfl, ?_⟩) (by first | exact hHeld | assumption) ?_
        rotate_left
        · (intro w hSw; (try dsimp only at hSw); (try unfold SN at hSw); go_simp)
          try with_reducible rfl
        try simp only [Act.put, List.getElem_toArray, List.getElem_cons_succ, List.getElem_cons_zero, List.setIfInBounds_toArray, List.set_cons_zero, List.set_cons_succ]
        refine Go.wpAnyH_take (fuel := 6) (i := 38) (oi := _) (v := ?_) rfl (by kernel_rfl) (by kernel_rfl) (by kernel_rfl) (fun _ _ _ h => h) (Or.inl ⟨by rfl, ?_⟩) (by first | exact hHeld | assumption) ?_
        rotate_left
        · (intro w hSw; (try dsimp only at hSw); (try unfold SN at hSw); go_simp)
          try with_reducible rfl
        try simp only [Act.put, List.getElem_toArray, List.getElem_cons_succ, List.getElem_cons_zero, List.setIfInBounds_toArray, List.set_cons_zero, List.set_cons_succ]
        refine Go.wpAnyH_take (fuel := 5) (i := 39) (oi := _) (v := ?_) rfl (by kernel_rfl) (by kernel_rfl) (by kernel_rfl) (fun _ _ _ h => h) (Or.inl ⟨by rfl, ?_⟩) (by first | exact hHeld | assumption) ?_
        rotate_left
        · (intro w hSw; (try dsimp only at hSw); (try unfold SN at hSw); go_simp)
          try with_reducible rfl
        try simp only [Act.put, List.getElem_toArray, List.getElem_cons_succ, List.getElem_cons_zero, List.setIfInBounds_toArray, List.set_cons_zero, List.set_cons_succ]
        refine Go.wpAnyH_take (fuel := 4) (i := 40) (oi := _) (v := ?_) rfl (by kernel_rfl) (by kernel_rfl) (by kernel_rfl) (fun _ _ _ h => h) (Or.inl ⟨by rfl, ?_⟩) (by first | exact hHeld | assumption) ?_
        rotate_left
        · (intro w hSw; (try dsimp only at hSw); (try unfold SN at hSw); go_simp)
          try with_reducible rfl
        try simp only [Act.put, List.getElem_toArray, List.getElem_cons_succ, List.getElem_cons_zero, List.setIfInBounds_toArray, List.set_cons_zero, List.set_cons_succ]
        refine Go.wpAnyH_take (fuel := 3) (i := 41) (oi := _) (v := ?_) rfl (by kernel_rfl) (by kernel_rfl) (by kernel_rfl) (fun _ _ _ h => h) (Or.inl ⟨by rfl, ?_⟩) (by first | exact hHeld | assumption) ?_
        rotate_left
        · (intro w hSw; (try dsimp only at hSw); (try unfold SN at hSw); go_simp)
          try with_reducible rfl
        try simp only [Act.put, List.getElem_toArray, List.getElem_cons_succ, List.getElem_cons_zero, List.setIfInBounds_toArray, List.set_cons_zero, List.set_cons_succ]
        refine Go.wpAnyH_take (fuel := 2) (i := 42) (oi := _) (v := ?_) rfl (by kernel_rfl) (by kernel_rfl) (by kernel_rfl) (fun _ _ _ h => h) (Or.inl ⟨by rfl, ?_⟩) (by first | exact hHeld | assumption) ?_
        rotate_left
        · (intro w hSw; (try dsimp only at hSw); (try unfold SN at hSw); go_simp)
          try with_reducible rfl
        try simp only [Act.put, List.getElem_toArray, List.getElem_cons_succ, List.getElem_cons_zero, List.setIfInBounds_toArray, List.set_cons_zero, List.set_cons_succ]
        refine Go.wpAnyH_take (fuel := 1) (i := 43) (oi := _) (v := ?_) rfl (by kernel_rfl) (by kernel_rfl) (by kernel_rfl) (fun _ _ _ h => h) (Or.inl ⟨by rfl, ?_⟩) (by first | exact hHeld | assumption) ?_
        rotate_left
        · (intro w hSw; (try dsimp only at hSw); (try unfold SN at hSw); go_simp)
          try with_reducible rfl
        try simp only [Act.put, List.getElem_toArray, List.getElem_cons_succ, List.getElem_cons_zero, List.setIfInBounds_toArray, List.set_cons_zero, List.set_cons_succ]
        refine Go.wpAnyH_take (fuel := 0) (i := 44) (oi := _) (v := ?_) rfl (by kernel_rfl) (by kernel_rfl) (by kernel_rfl) (fun _ _ _ h => h) (Or.inl ⟨by rfl, ?_⟩) (by first | exact hHeld | assumption) ?_
        rotate_left
        · (intro w hSw; (try dsimp only at hSw); (try unfold SN at hSw); go_simp)
          try with_reducible rfl
        try simp only [Act.put, List.getElem_toArray, List.getElem_cons_succ, List.getElem_cons_zero, List.setIfInBounds_toArray, List.set_cons_zero, List.set_cons_succ]
        refine Go.wpAnyH_done (by kernel_rfl) ?_ _
        have HFIN := Lib.hid (HB6.out.trans (HB9.out.mono HB6.out.size))
        clear HCL KW KT s0 k1s k2s k3s HB9 HB7 HB8 HB6 p0 p1 p2 p3 p4 p5 o0 o1 m0 m1 HSH
        go_wp2
        go_ret
        exact ⟨rfl, HFIN.out⟩
      · have hqb : (q == 1) = false := by rw [beq_eq_false_iff_ne]; exact hq1
        refine Go.wp_region_held_drew (S := (fun w' => w'.cell? ⟨XN, 0, none⟩ = some (.int .i64 l.length) ∧ w'.cell? ⟨XN, 1, none⟩ = some (.slice A4 (allM W H l l.length).length c4) ∧ w'.cell? ⟨XA, 0, none⟩ = some (.int .i64 4) ∧ w'.cell? ⟨XA, 1, none⟩ = some (.int .i64 1) ∧ w'.cell? ⟨XA, 2, none⟩ = some (.int .i64 q) ∧ w'.cell? ⟨XA, 3, none⟩ = some (.slice A1 r.path.length c1) ∧ w'.cell? ⟨XA, 4, none⟩ = some (.int .i64 co) ∧ w'.cell? ⟨S6, g.F.tt, none⟩ = some (.int .i64 mt))) (by kernel_rfl) s0 (fun hHeld => ?_)
        refine Go.wpAnyH_take (fuel := 44) (i := 0) (oi := _) (v := ?_) rfl (by kernel_rfl) (by kernel_rfl) (by kernel_rfl) (fun _ _ _ h => h) (Or.inl ⟨by rfl, ?_⟩) (by first | exact hHeld | assumption) ?_
        rotate_left
        · (intro w hSw; (try dsimp only at hSw); (try unfold SN at hSw); go_simp)
          try with_reducible rfl
        try simp only [Act.put, List.getElem_toArray, List.getElem_cons_succ, List.getElem_cons_zero, List.setIfInBounds_toArray, List.set_cons_zero, List.set_cons_succ]
        refine Go.wpAnyH_take (fuel := 43) (i := 1) (oi := _) (v := ?_) rfl (by kernel_rfl) (by kernel_rfl) (by kernel_rfl) (fun _ _ _ h => h) (Or.inl ⟨by rfl, ?_⟩) (by first | exact hHeld | assumption) ?_
        rotate_left
        · (intro w hSw; (try dsimp only at hSw); (try unfold SN at hSw); go_simp)
          try with_reducible rfl
        try simp only [Act.put, List.getElem_toArray, List.getElem_cons_succ, List.getElem_cons_zero, List.setIfInBounds_toArray, List.set_cons_zero, List.set_cons_succ]
        refine Go.wpAnyH_take (fuel := 42) (i := 2) (oi := _) (v := ?_) rfl (by kernel_rfl) (by kernel_rfl) (by kernel_rfl) (fun _ _ _ h => h) (Or.inl ⟨by rfl, ?_⟩) (by first | exact hHeld | assumption) ?_
        rotate_left
        · (intro w hSw; (try dsimp only at hSw); (try unfold SN at hSw); go_simp)
          try with_reducible rfl
        try simp only [Act.put, List.getElem_toArray, List.getElem_cons_succ, List.getElem_cons_zero, List.setIfInBounds_toArray, List.set_cons_zero, List.set_cons_succ]
        refine Go.wpAnyH_take (fuel := 41) (i := 3) (oi := _) (v := ?_) rfl (by kernel_rfl) (by kernel_rfl) (by kernel_rfl) (fun _ _ _ h => h) (Or.inl ⟨by rfl, ?_⟩) (by first | exact hHeld | assumption) ?_
        rotate_left
        · (intro w hSw; (try dsimp only at hSw); (try unfold SN at hSw); go_simp)
          try with_reducible rfl
        try simp only [Act.put, List.getElem_toArray, List.getElem_cons_succ, List.getElem_cons_zero, List.setIfInBounds_toArray, List.set_cons_zero, List.set_cons_succ]
        refine Go.wpAnyH_take (fuel := 40) (i := 4) (oi := _) (v := ?_) rfl (by kernel_rfl) (by kernel_rfl) (by kernel_rfl) (fun _ _ _ h => h) (Or.inl ⟨by rfl, ?_⟩) (by first | exact hHeld | assumption) ?_
        rotate_left
        · (intro w hSw; (try dsimp only at hSw); (try unfold SN at hSw); go_simp)
          try with_reducible rfl
        try simp only [Act.put, List.getElem_toArray, List.getElem_cons_succ, List.getElem_cons_zero, List.setIfInBounds_toArray, List.set_cons_zero, List.set_cons_succ]
        refine Go.wpAnyH_take (fuel := 39) (i := 5) (oi := _) (v := ?_) rfl (by kernel_rfl) (by kernel_rfl) (by kernel_rfl) (fun _ _ _ h => h) (Or.inl ⟨by rfl, ?_⟩) (by first | exact hHeld | assumption) ?_
        rotate_left
        · (intro w hSw; (try dsimp only at hSw); (try unfold SN at hSw); go_simp)
          try with_reducible rfl
        try simp only [Act.put, List.getElem_toArray, List.getElem_cons_succ, List.getElem_cons_zero, List.setIfInBounds_toArray, List.set_cons_zero, List.set_cons_succ]
        refine Go.wpAnyH_ready (fuel := 38) (rs := [6]) (by kernel_rfl) (by simp) ?_
        refine Go.AllReadyH.cons (o := _) rfl (fun K hK => ?_) Go.AllReadyH.nil
        have HKX := Lib.hid hK
        clear hK
        go_simp
        go_at_call 47
        refine (KW.out _ (Below.refl _ _).drew).mono ?_
        rintro e w7 ⟨rfl, hb7⟩
        have HB7 := Lib.hid ((Below.refl w6.heap.size w6).drew.trans (hb7.mono (Nat.le_refl _)))
        clear hb7
        have k1s := HCL.out _ HB7.out
        refine HKX.out.out _ _ k1s (fun hHeld => ?_)
        clear HKX
        try simp only [Act.put, List.getElem_toArray, List.getElem_cons_succ, List.getElem_cons_zero, List.setIfInBounds_toArray, List.set_cons_zero, List.set_cons_succ]
        refine Go.wpAnyH_take (fuel := 37) (i := 7) (oi := _) (v := ?_) rfl (by kernel_rfl) (by kernel_rfl) (by kernel_rfl) (fun _ _ _ h => h) (Or.inl ⟨by rfl, ?_⟩) (by first | exact hHeld | assumption) ?_
        rotate_left
        · (intro w hSw; (try dsimp only at hSw); (try unfold SN at hSw); go_simp)
          try with_reducible rfl
        try simp only [Act.put, List.getElem_toArray, List.getElem_cons_succ, List.getElem_cons_zero, List.setIfInBounds_toArray, List.set_cons_zero, List.set_cons_succ]
        refine Go.wpAnyH_take (fuel := 36) (i := 8) (oi := _) (v := ?_) rfl (by kernel_rfl) (by kernel_rfl) (by kernel_rfl) (fun _ _ _ h => h) (Or.inl ⟨by rfl, ?_⟩) (by first | exact hHeld | assumption) ?_
        rotate_left
        · (intro w hSw; (try dsimp only at hSw); (try unfold SN at hSw); go_simp)
          try with_reducible rfl
        try simp only [Act.put, List.getElem_toArray, List.getElem_cons_succ, List.getElem_cons_zero, List.setIfInBounds_toArray, List.set_cons_zero, List.set_cons_succ]
        refine Go.wpAnyH_take (fuel := 35) (i := 9) (oi := _) (v := ?_) rfl (by kernel_rfl) (by kernel_rfl) (by kernel_rfl) (fun _ _ _ h => h) (Or.inl ⟨by rfl, ?_⟩) (by first | exact hHeld | assumption) ?_
        rotate_left
        · (intro w hSw; (try dsimp only at hSw); (try unfold SN at hSw); go_simp)
          try with_reducible rfl
        try simp only [Act.put, List.getElem_toArray, List.getElem_cons_succ, List.getElem_cons_zero, List.setIfInBounds_toArray, List.set_cons_zero, List.set_cons_succ]
        refine Go.wpAnyH_take (fuel := 34) (i := 10) (oi := _) (v := ?_) rfl (by kernel_rfl) (by kernel_rfl) (by kernel_rfl) (fun _ _ _ h => h) (Or.inl ⟨by rfl, ?_⟩) (by first | exact hHeld | assumption) ?_
        rotate_left
        · (intro w hSw; (try dsimp only at hSw); (try unfold SN at hSw); go_simp)
          try with_reducible rfl
        try simp only [Act.put, List.getElem_toArray, List.getElem_cons_succ, List.getElem_cons_zero, List.setIfInBounds_toArray, List.set_cons_zero, List.set_cons_succ]
        refine Go.wpAnyH_take (fuel := 33) (i := 11) (oi := _) (v := ?_) rfl (by kernel_rfl) (by kernel_rfl) (by kernel_rfl) (fun _ _ _ h => h) (Or.inl ⟨by rfl, ?_⟩) (by first | exact hHeld | assumption) ?_
        rotate_left
        · (intro w hSw; (try dsimp only at hSw); (try unfold SN at hSw); go_simp)
          try with_reducible rfl
        try simp only [Act.put, List.getElem_toArray, List.getElem_cons_succ, List.getElem_cons_zero, List.setIfInBounds_toArray, List.set_cons_zero, List.set_cons_succ]
        refine Go.wpAnyH_take (fuel := 32) (i := 12) (oi := _) (v := ?_) rfl (by kernel_rfl) (by kernel_rfl) (by kernel_rfl) (fun _ _ _ h => h) (Or.inl ⟨by rfl, ?_⟩) (by first | exact hHeld | assumption) ?_
        rotate_left
        · (intro w hSw; (try dsimp only at hSw); (try unfold SN at hSw); go_simp)
          try with_reducible rfl
        try simp only [Act.put, List.getElem_toArray, List.getElem_cons_succ, List.getElem_cons_zero, List.setIfInBounds_toArray, List.set_cons_zero, List.set_cons_succ]
        refine Go.wpAnyH_take (fuel := 31) (i := 13) (oi := _) (v := ?_) rfl (by kernel_rfl) (by kernel_rfl) (by kernel_rfl) (fun _ _ _ h => h) (Or.inl ⟨by rfl, ?_⟩) (by first | exact hHeld | assumption) ?_
        rotate_left
        · (intro w hSw; (try dsimp only at hSw); (try unfold SN at hSw); go_simp)
          try with_reducible rfl
        try simp only [Act.put, List.getElem_toArray, List.getElem_cons_succ, List.getElem_cons_zero, List.setIfInBounds_toArray, List.set_cons_zero, List.set_cons_succ]
        refine Go.wpAnyH_take (fuel := 30) (i := 14) (oi := _) (v := ?_) rfl (by kernel_rfl) (by kernel_rfl) (by kernel_rfl) (fun _ _ _ h => h) (Or.inl ⟨by rfl, ?_⟩) (by first | exact hHeld | assumption) ?_
        rotate_left
        · (intro w hSw; (try dsimp only at hSw); (try unfold SN at hSw); go_simp)
          try with_reducible rfl
        try simp only [Act.put, List.getElem_toArray, List.getElem_cons_succ, List.getElem_cons_zero, List.setIfInBounds_toArray, List.set_cons_zero, List.set_cons_succ]
        refine Go.wpAnyH_take (fuel := 29) (i := 15) (oi := _) (v := ?_) rfl (by kernel_rfl) (by kernel_rfl) (by kernel_rfl) (fun _ _ _ h => h) (Or.inl ⟨by rfl, ?_⟩) (by first | exact hHeld | assumption) ?_
        rotate_left
        · (intro w hSw; (try dsimp only at hSw); (try unfold SN at hSw); go_simp)
          try with_reducible rfl
        try simp only [Act.put, List.getElem_toArray, List.getElem_cons_succ, List.getElem_cons_zero, List.setIfInBounds_toArray, List.set_cons_zero, List.set_cons_succ]
        refine Go.wpAnyH_take (fuel := 28) (i := 16) (oi := _) (v := ?_) rfl (by kernel_rfl) (by kernel_rfl) (by kernel_rfl) (fun _ _ _ h => h) (Or.inl ⟨by rfl, ?_⟩) (by first | exact hHeld | assumption) ?_
        rotate_left
        · (intro w hSw; (try dsimp only at hSw); (try unfold SN at hSw); go_simp)
          try with_reducible rfl
        try simp only [Act.put, List.getElem_toArray, List.getElem_cons_succ, List.getElem_cons_zero, List.setIfInBounds_toArray, List.set_cons_zero, List.set_cons_succ]
        refine Go.wpAnyH_take (fuel := 27) (i := 17) (oi := _) (v := ?_) rfl (by kernel_rfl) (by kernel_rfl) (by kernel_rfl) (fun _ _ _ h => h) (Or.inl ⟨by rfl, ?_⟩) (by first | exact hHeld | assumption) ?_
        rotate_left
        · (intro w hSw; (try dsimp only at hSw); (try unfold SN at hSw); go_simp)
          try with_reducible rfl
        try simp only [Act.put, List.getElem_toArray, List.getElem_cons_succ, List.getElem_cons_zero, List.setIfInBounds_toArray, List.set_cons_zero, List.set_cons_succ]
        refine Go.wpAnyH_take (fuel := 26) (i := 18) (oi := _) (v := ?_) rfl (by kernel_rfl) (by kernel_rfl) (by kernel_rfl) (fun _ _ _ h => h) (Or.inl ⟨by rfl, ?_⟩) (by first | exact hHeld | assumption) ?_
        rotate_left
        · (intro w hSw; (try dsimp only at hSw); (try unfold SN at hSw); go_simp)
          try with_reducible rfl
        try simp only [Act.put, List.getElem_toArray, List.getElem_cons_succ, List.getElem_cons_zero, List.setIfInBounds_toArray, List.set_cons_zero, List.set_cons_succ]
        refine Go.wpAnyH_ready (fuel := 25) (rs := [19]) (by kernel_rfl) (by simp) ?_
        refine Go.AllReadyH.cons (o := _) rfl (fun K hK => ?_) Go.AllReadyH.nil
        have HKX := Lib.hid hK
        clear hK
        go_simp
        go_at_call 48
        refine (KT.out _).mono ?_
        rintro e w8 ⟨rfl, hb8⟩
        have HB8 := Lib.hid (HB7.out.trans (hb8.mono HB7.out.size))
        clear hb8
        have k2s := HCL.out _ HB8.out
        refine HKX.out.out _ _ k2s (fun hHeld => ?_)
        clear HKX
        try simp only [Act.put, List.getElem_toArray, List.getElem_cons_succ, List.getElem_cons_zero, List.setIfInBounds_toArray, List.set_cons_zero, List.set_cons_succ]
        refine Go.wpAnyH_take (fuel := 24) (i := 20) (oi := _) (v := ?_) rfl (by kernel_rfl) (by kernel_rfl) (by kernel_rfl) (fun _ _ _ h => h) (Or.inl ⟨by rfl, ?_⟩) (by first | exact hHeld | assumption) ?_
        rotate_left
        · (intro w hSw; (try dsimp only at hSw); (try unfold SN at hSw); go_simp)
          try with_reducible rfl
        try simp only [Act.put, List.getElem_toArray, List.getElem_cons_succ, List.getElem_cons_zero, List.setIfInBounds_toArray, List.set_cons_zero, List.set_cons_succ]
        refine Go.wpAnyH_take (fuel := 23) (i := 21) (oi := _) (v := ?_) rfl (by kernel_rfl) (by kernel_rfl) (by kernel_rfl) (fun _ _ _ h => h) (Or.inl ⟨by rfl, ?_⟩) (by first | exact hHeld | assumption) ?_
        rotate_left
        · (intro w hSw; (try dsimp only at hSw); (try unfold SN at hSw); go_simp)
          try with_reducible rfl
        try simp only [Act.put, List.getElem_toArray, List.getElem_cons_succ, List.getElem_cons_zero, List.setIfInBounds_toArray, List.set_cons_zero, List.set_cons_succ]
        refine Go.wpAnyH_take (fuel := 22) (i := 22) (oi := _) (v := ?_) rfl (by kernel_rfl) (by kernel_rfl) (by kernel_rfl) (fun _ _ _ h => h) (Or.inl ⟨by rfl, ?_⟩) (by first | exact hHeld | assumption) ?_
        rotate_left
        · (intro w hSw; (try dsimp only at hSw); (try unfold SN at hSw); go_simp)
          try with_reducible rfl
        try simp only [Act.put, List.getElem_toArray, List.getElem_cons_succ, List.getElem_cons_zero, List.setIfInBounds_toArray, List.set_cons_zero, List.set_cons_succ]
        refine Go.wpAnyH_take (fuel := 21) (i := 23) (oi := _) (v := ?_) rfl (by kernel_rfl) (by kernel_rfl) (by kernel_rfl) (fun _ _ _ h => h) (Or.inl ⟨by rfl, ?_⟩) (by first | exact hHeld | assumption) ?_
        rotate_left
        · (intro w hSw; (try dsimp only at hSw); (try unfold SN at hSw); go_simp)
          try with_reducible rfl
        try simp only [Act.put, List.getElem_toArray, List.getElem_cons_succ, List.getElem_cons_zero, List.setIfInBounds_toArray, List.set_cons_zero, List.set_cons_succ]
        refine Go.wpAnyH_take (fuel := 20) (i := 24) (oi := _) (v := ?_) rfl (by kernel_rfl) (by kernel_rfl) (by kernel_rfl) (fun _ _ _ h => h) (Or.inl ⟨by rfl, ?_⟩) (by first | exact hHeld | assumption) ?_
        rotate_left
        · (intro w hSw; (try dsimp only at hSw); (try unfold SN at hSw); go_simp)
          try with_reducible rfl
        try simp only [Act.put, List.getElem_toArray, List.getElem_cons_succ, List.getElem_cons_zero, List.setIfInBounds_toArray, List.set_cons_zero, List.set_cons_succ]
        refine Go.wpAnyH_take (fuel := 19) (i := 25) (oi := _) (v := ?_) rfl (by kernel_rfl) (by kernel_rfl) (by kernel_rfl) (fun _ _ _ h => h) (Or.inl ⟨by rfl, ?_⟩) (by first | exact hHeld | assumption) ?_
        rotate_left
        · (intro w hSw; (try dsimp only at hSw); (try unfold SN at hSw); go_simp)
          try with_reducible rfl
        try simp only [Act.put, List.getElem_toArray, List.getElem_cons_succ, List.getElem_cons_zero, List.setIfInBounds_toArray, List.set_cons_zero, List.set_cons_succ]
        refine Go.wpAnyH_take (fuel := 18) (i := 26) (oi := _) (v := ?_) rfl (by kernel_rfl) (by kernel_rfl) (by kernel_rfl) (fun _ _ _ h => h) (Or.inl ⟨by rfl, ?_⟩) (by first | exact hHeld | assumption) ?_
        rotate_left
        · (intro w hSw; (try dsimp only at hSw); (try unfold SN at hSw); go_simp)
          try with_reducible rfl
        try simp only [Act.put, List.getElem_toArray, List.getElem_cons_succ, List.getElem_cons_zero, List.setIfInBounds_toArray, List.set_cons_zero, List.set_cons_succ]
        refine Go.wpAnyH_take (fuel := 17) (i := 27) (oi := _) (v := ?_) rfl (by kernel_rfl) (by kernel_rfl) (by kernel_rfl) (fun _ _ _ h => h) (Or.inl ⟨by rfl, ?_⟩) (by first | exact hHeld | assumption) ?_
        rotate_left
        · (intro w hSw; (try dsimp only at hSw); (try unfold SN at hSw); go_simp)
          try with_reducible rfl
        try simp only [Act.put, List.getElem_toArray, List.getElem_cons_succ, List.getElem_cons_zero, List.setIfInBounds_toArray, List.set_cons_zero, List.set_cons_succ]
        refine Go.wpAnyH_take (fuel := 16) (i := 28) (oi := _) (v := ?_) rfl (by kernel_rfl) (by kernel_rfl) (by kernel_rfl) (fun _ _ _ h => h) (Or.inl ⟨by rfl, ?_⟩) (by first | exact hHeld | assumption) ?_
        rotate_left
        · (intro w hSw; (try dsimp only at hSw); (try unfold SN at hSw); go_simp)
          try with_reducible rfl
        try simp only [Act.put, List.getElem_toArray, List.getElem_cons_succ, List.getElem_cons_zero, List.setIfInBounds_toArray, List.set_cons_zero, List.set_cons_succ]
        refine Go.wpAnyH_ready (fuel := 15) (rs := [29]) (by kernel_rfl) (by simp) ?_
        refine Go.AllReadyH.cons (o := _) rfl (fun K hK => ?_) Go.AllReadyH.nil
        have HKX := Lib.hid hK
        clear hK
        go_simp
        go_at_call 21
        refine (one_anyA _).mono ?_
        rintro e w9 ⟨rfl, hb9⟩
        have HB9 := Lib.hid (HB8.out.trans (hb9.mono HB8.out.size))
        clear hb9
        have k3s := HCL.out _ HB9.out
        refine HKX.out.out _ _ k3s (fun hHeld => ?_)
        clear HKX
        try simp only [Act.put, List.getElem_toArray, List.getElem_cons_succ, List.getElem_cons_zero, List.setIfInBounds_toArray, List.set_cons_zero, List.set_cons_succ]
        refine Go.wpAnyH_take (fuel := 14) (i := 30) (oi := _) (v := ?_) rfl (by kernel_rfl) (by kernel_rfl) (by kernel_rfl) (fun _ _ _ h => h) (Or.inl ⟨by rfl, ?_⟩) (by first | exact hHeld | assumption) ?_
        rotate_left
        · (intro w hSw; (try dsimp only at hSw); (try unfold SN at hSw); go_simp)
          try with_reducible rfl
        try simp only [Act.put, List.getElem_toArray, List.getElem_cons_succ, List.getElem_cons_zero, List.setIfInBounds_toArray, List.set_cons_zero, List.set_cons_succ]
        refine Go.wpAnyH_take (fuel := 13) (i := 31) (oi := _) (v := ?_) rfl (by kernel_rfl) (by kernel_rfl) (by kernel_rfl) (fun _ _ _ h => h) (Or.inl ⟨by rfl, ?_⟩) (by first | exact hHeld | assumption) ?_
        rotate_left
        · (intro w hSw; (try dsimp only at hSw); (try unfold SN at hSw); go_simp)
          try with_reducible rfl
        try simp only [Act.put, List.getElem_toArray, List.getElem_cons_succ, List.getElem_cons_zero, List.setIfInBounds_toArray, List.set_cons_zero, List.set_cons_succ]
        refine Go.wpAnyH_take (fuel := 12) (i := 32) (oi := _) (v := ?_) rfl (by kernel_rfl) (by kernel_rfl) (by kernel_rfl) (fun _ _ _ h => h) (Or.inl ⟨by rfl, ?_⟩) (by first | exact hHeld | assumption) ?_
        rotate_left
        · (intro w hSw; (try dsimp only at hSw); (try unfold SN at hSw); go_simp)
          try with_reducible rfl
        try simp only [Act.put, List.getElem_toArray, List.getElem_cons_succ, List.getElem_cons_zero, List.setIfInBounds_toArray, List.set_cons_zero, List.set_cons_succ]
        refine Go.wpAnyH_take (fuel := 11) (i := 33) (oi := _) (v := undef) rfl (by kernel_rfl) (by kernel_rfl) (by kernel_rfl) (fun _ _ _ h => h) (Or.inr ⟨by rfl, rfl⟩) (by first | exact hHeld | assumption) ?_
        try simp only [Act.put, List.getElem_toArray, List.getElem_cons_succ, List.getElem_cons_zero, List.setIfInBounds_toArray, List.set_cons_zero, List.set_cons_succ]
        refine Go.wpAnyH_take (fuel := 10) (i := 34) (oi := _) (v := undef) rfl (by kernel_rfl) (by kernel_rfl) (by kernel_rfl) (fun _ _ _ h => h) (Or.inr ⟨by rfl, rfl⟩) (by first | exact hHeld | assumption) ?_
        try simp only [Act.put, List.getElem_toArray, List.getElem_cons_succ, List.getElem_cons_zero, List.setIfInBounds_toArray, List.set_cons_zero, List.set_cons_succ]
        refine Go.wpAnyH_take (fuel := 9) (i := 35) (oi := _) (v := undef) rfl (by kernel_rfl) (by kernel_rfl) (by kernel_rfl) (fun _ _ _ h => h) (Or.inr ⟨by rfl, rfl⟩) (by first | exact hHeld | assumption) ?_
        try simp only [Act.put, List.getElem_toArray, List.getElem_cons_succ, List.getElem_cons_zero, List.setIfInBounds_toArray, List.set_cons_zero, List.set_cons_succ]
        refine Go.wpAnyH_take (fuel := 8) (i := 36) (oi := _) (v := undef) rfl (by kernel_rfl) (by kernel_rfl) (by kernel_rfl) (fun _ _ _ h => h) (Or.inr ⟨by rfl, rfl⟩) (by first | exact hHeld | assumption) ?_
        try simp only [Act.put, List.getElem_toArray, List.getElem_cons_succ, List.getElem_cons_zero, List.setIfInBounds_toArray, List.set_cons_zero, List.set_cons_succ]
        refine Go.wpAnyH_take (fuel := 7) (i := 37) (oi := _) (v := undef) rfl (by kernel_rfl) (by kernel_rfl) (by kernel_rfl) (fun _ _ _ h => h) (Or.inr ⟨by rfl, rfl⟩) (by first | exact hHeld | assumption) ?_
        try simp only [Act.put, List.getElem_toArray, List.getElem_cons_succ, List.getElem_cons_zero, List.setIfInBounds_toArray, List.set_cons_zero, List.set_cons_succ]
        refine Go.wpAnyH_take (fuel := 6) (i := 38) (oi := _) (v := undef) rfl (by kernel_rfl) (by kernel_rfl) (by kernel_rfl) (fun _ _ _ h => h) (Or.inr ⟨by rfl, rfl⟩) (by first | exact hHeld | assumption) ?_
        try simp only [Act.put, List.getElem_toArray, List.getElem_cons_succ, List.getElem_cons_zero, List.setIfInBounds_toArray, List.set_cons_zero, List.set_cons_succ]
        refine Go.wpAnyH_take (fuel := 5) (i := 39) (oi := _) (v := undef) rfl (by kernel_rfl) (by kernel_rfl) (by kernel_rfl) (fun _ _ _ h => h) (Or.inr ⟨by rfl, rfl⟩) (by first | exact hHeld | assumption) ?_
        try simp only [Act.put, List.getElem_toArray, List.getElem_cons_succ, List.getElem_cons_zero, List.setIfInBounds_toArray, List.set_cons_zero, List.set_cons_succ]
        refine Go.wpAnyH_take (fuel := 4) (i := 40) (oi := _) (v := undef) rfl (by kernel_rfl) (by kernel_rfl) (by kernel_rfl) (fun _ _ _ h => h) (Or.inr ⟨by rfl, rfl⟩) (by first | exact hHeld | assumption) ?_
        try simp only [Act.put, List.getElem_toArray, List.getElem_cons_succ, List.getElem_cons_zero, List.setIfInBounds_toArray, List.set_cons_zero, List.set_cons_succ]
        refine Go.wpAnyH_take (fuel := 3) (i := 41) (oi := _) (v := undef) rfl (by kernel_rfl) (by kernel_rfl) (by kernel_rfl) (fun _ _ _ h => h) (Or.inr ⟨by rfl, rfl⟩) (by first | exact hHeld | assumption) ?_
        try simp only [Act.put, List.getElem_toArray, List.getElem_cons_succ, List.getElem_cons_zero, List.setIfInBounds_toArray, List.set_cons_zero, List.set_cons_succ]
        refine Go.wpAnyH_take (fuel := 2) (i := 42) (oi := _) (v := ?_) rfl (by kernel_rfl) (by kernel_rfl) (by kernel_rfl) (fun _ _ _ h => h) (Or.inl ⟨by rfl, ?_⟩) (by first | exact hHeld | assumption) ?_
        rotate_left
        · (intro w hSw; (try dsimp only at hSw); (try unfold SN at hSw); go_simp)
          try with_reducible rfl
        try simp only [Act.put, List.getElem_toArray, List.getElem_cons_succ, List.getElem_cons_zero, List.setIfInBounds_toArray, List.set_cons_zero, List.set_cons_succ]
        refine Go.wpAnyH_take (fuel := 1) (i := 43) (oi := _) (v := ?_) rfl (by kernel_rfl) (by kernel_rfl) (by kernel_rfl) (fun _ _ _ h => h) (Or.inl ⟨by rfl, ?_⟩) (by first | exact hHeld | assumption) ?_
        rotate_left
        · (intro w hSw; (try dsimp only at hSw); (try unfold SN at hSw); go_simp)
          try with_reducible rfl
        try simp only [Act.put, List.getElem_toArray, List.getElem_cons_succ, List.getElem_cons_zero, List.setIfInBounds_toArray, List.set_cons_zero, List.set_cons_succ]
        refine Go.wpAnyH_take (fuel := 0) (i := 44) (oi := _) (v := ?_) rfl (by kernel_rfl) (by kernel_rfl) (by kernel_rfl) (fun _ _ _ h => h) (Or.inl ⟨by rfl, ?_⟩) (by first | exact hHeld | assumption) ?_
        rotate_left
        · (intro w hSw; (try dsimp only at hSw); (try unfold SN at hSw); go_simp)
          try with_reducible rfl
        try simp only [Act.put, List.getElem_toArray, List.getElem_cons_succ, List.getElem_cons_zero, List.setIfInBounds_toArray, List.set_cons_zero, List.set_cons_succ]
        refine Go.wpAnyH_done (by kernel_rfl) ?_ _
        have HFIN := Lib.hid (HB6.out.trans (HB9.out.mono HB6.out.size))
        clear HCL KW KT s0 k1s k2s k3s HB9 HB7 HB8 HB6 p0 p1 p2 p3 p4 p5 o0 o1 m0 m1 HSH
        go_wp2
        go_ret
        exact ⟨rfl, HFIN.out⟩
    · have hpb : (p == 1) = false := by rw [beq_eq_false_iff_ne]; exact hp1
      refine Go.wp_region_held_drew (S := (fun w' => w'.cell? ⟨XN, 0, none⟩ = some (.int .i64 l.length) ∧ w'.cell? ⟨XN, 1, none⟩ = some (.slice A4 (allM W H l l.length).length c4) ∧ w'.cell? ⟨XA, 0, none⟩ = some (.int .i64 4) ∧ w'.cell? ⟨XA, 1, none⟩ = some (.int .i64 p) ∧ w'.cell? ⟨XA, 2, none⟩ = some (.int .i64 q) ∧ w'.cell? ⟨XA, 3, none⟩ = some (.slice A1 r.path.length c1) ∧ w'.cell? ⟨XA, 4, none⟩ = some (.int .i64 co) ∧ w'.cell? ⟨S6, g.F.tt, none⟩ = some (.int .i64 mt))) (by kernel_rfl) s0 (fun hHeld => ?_)
      refine Go.wpAnyH_take (fuel := 44) (i := 0) (oi := _) (v := ?_) rfl (by kernel_rfl) (by kernel_rfl) (by kernel_rfl) (fun _ _ _ h => h) (Or.inl ⟨by rfl, ?_⟩) (by first | exact hHeld | assumption) ?_
      rotate_left
      · (intro w hSw; (try dsimp only at hSw); (try unfold SN at hSw); go_simp)
        try with_reducible rfl
      try simp only [Act.put, List.getElem_toArray, List.getElem_cons_succ, List.getElem_cons_zero, List.setIfInBounds_toArray, List.set_cons_zero, List.set_cons_succ]
      refine Go.wpAnyH_take (fuel := 43) (i := 1) (oi := _) (v := ?_) rfl (by kernel_rfl) (by kernel_rfl) (by kernel_rfl) (fun _ _ _ h => h) (Or.inl ⟨by rfl, ?_⟩) (by first | exact hHeld | assumption) ?_
      rotate_left
      · (intro w hSw; (try dsimp only at hSw); (try unfold SN at hSw); go_simp)
        try with_reducible rfl
      try simp only [Act.put, List.getElem_toArray, List.getElem_cons_succ, List.getElem_cons_zero, List.setIfInBounds_toArray, List.set_cons_zero, List.set_cons_succ]
      refine Go.wpAnyH_take (fuel := 42) (i := 2) (oi := _) (v := ?_) rfl (by kernel_rfl) (by kernel_rfl) (by kernel_rfl) (fun _ _ _ h => h) (Or.inl ⟨by rfl, ?_⟩) (by first | exact hHeld | assumption) ?_
      rotate_left
      · (intro w hSw; (try dsimp only at hSw); (try unfold SN at hSw); go_simp)
        try with_reducible rfl
      try simp only [Act.put, List.getElem_toArray, List.getElem_cons_succ, List.getElem_cons_zero, List.setIfInBounds_toArray, List.set_cons_zero, List.set_cons_succ]
      refine Go.wpAnyH_take (fuel := 41) (i := 3) (oi := _) (v := ?_) rfl (by kernel_rfl) (by kernel_rfl) (by kernel_rfl) (fun _ _ _ h => h) (Or.inl ⟨by rfl, ?_⟩) (by first | exact hHeld | assumption) ?_
      rotate_left
      · (intro w hSw; (try dsimp only at hSw); (try unfold SN at hSw); go_simp)
        try with_reducible rfl
      try simp only [Act.put, List.getElem_toArray, List.getElem_cons_succ, List.getElem_cons_zero, List.setIfInBounds_toArray, List.set_cons_zero, List.set_cons_succ]
      refine Go.wpAnyH_take (fuel := 40) (i := 4) (oi := _) (v := ?_) rfl (by kernel_rfl) (by kernel_rfl) (by kernel_rfl) (fun _ _ _ h => h) (Or.inl ⟨by rfl, ?_⟩) (by first | exact hHeld | assumption) ?_
      rotate_left
      · (intro w hSw; (try dsimp only at hSw); (try unfold SN at hSw); go_simp)
        try with_reducible rfl
      try simp only [Act.put, List.getElem_toArray, List.getElem_cons_succ, List.getElem_cons_zero, List.setIfInBounds_toArray, List.set_cons_zero, List.set_cons_succ]
      refine Go.wpAnyH_take (fuel := 39) (i := 5) (oi := _) (v := ?_) rfl (by kernel_rfl) (by kernel_rfl) (by kernel_rfl) (fun _ _ _ h => h) (Or.inl ⟨by rfl, ?_⟩) (by first | exact hHeld | assumption) ?_
      rotate_left
      · (intro w hSw; (try dsimp only at hSw); (try unfold SN at hSw); go_simp)
        try with_reducible rfl
      try simp only [Act.put, List.getElem_toArray, List.getElem_cons_succ, List.getElem_cons_zero, List.setIfInBounds_toArray, List.set_cons_zero, List.set_cons_succ]
      refine Go.wpAnyH_ready (fuel := 38) (rs := [6]) (by kernel_rfl) (by simp) ?_
      refine Go.AllReadyH.cons (o := _) rfl (fun K hK => ?_) Go.AllReadyH.nil
      have HKX := Lib.hid hK
      clear hK
      go_simp
      go_at_call 47
      refine (KW.out _ (Below.refl _ _).drew).mono ?_
      rintro e w7 ⟨rfl, hb7⟩
      have HB7 := Lib.hid ((Below.refl w6.heap.size w6).drew.trans (hb7.mono (Nat.le_refl _)))
      clear hb7
      have k1s := HCL.out _ HB7.out
      refine HKX.out.out _ _ k1s (fun hHeld => ?_)
      clear HKX
      try simp only [Act.put, List.getElem_toArray, List.getElem_cons_succ, List.getElem_cons_zero, List.setIfInBounds_toArray, List.set_cons_zero, List.set_cons_succ]
      refine Go.wpAnyH_take (fuel := 37) (i := 7) (oi := _) (v := ?_) rfl (by kernel_rfl) (by kernel_rfl) (by kernel_rfl) (fun _ _ _ h => h) (Or.inl ⟨by rfl, ?_⟩) (by first | exact hHeld | assumption) ?_
      rotate_left
      · (intro w hSw; (try dsimp only at hSw); (try unfold SN at hSw); go_simp)
        try with_reducible rfl
      try simp only [Act.put, List.getElem_toArray, List.getElem_cons_succ, List.getElem_cons_zero, List.setIfInBounds_toArray, List.set_cons_zero, List.set_cons_succ]
      refine Go.wpAnyH_take (fuel := 36) (i := 8) (oi := _) (v := ?_) rfl (by kernel_rfl) (by kernel_rfl) (by kernel_rfl) (fun _ _ _ h => h) (Or.inl ⟨by rfl, ?_⟩) (by first | exact hHeld | assumption) ?_
      rotate_left
      · (intro w hSw; (try dsimp only at hSw); (try unfold SN at hSw); go_simp)
        try with_reducible rfl
      try simp only [Act.put, List.getElem_toArray, List.getElem_cons_succ, List.getElem_cons_zero, List.setIfInBounds_toArray, List.set_cons_zero, List.set_cons_succ]
      refine Go.wpAnyH_take (fuel := 35) (i := 9) (oi := _) (v := ?_) rfl (by kernel_rfl) (by kernel_rfl) (by kernel_rfl) (fun _ _ _ h => h) (Or.inl ⟨by rfl, ?_⟩) (by first | exact hHeld | assumption) ?_
      rotate_left
      · (intro w hSw; (try dsimp only at hSw); (try unfold SN at hSw); go_simp)
        try with_reducible rfl
      try simp only [Act.put, List.getElem_toArray, List.getElem_cons_succ, List.getElem_cons_zero, List.setIfInBounds_toArray, List.set_cons_zero, List.set_cons_succ]
      refine Go.wpAnyH_take (fuel := 34) (i := 10) (oi := _) (v := ?_) rfl (by kernel_rfl) (by kernel_rfl) (by kernel_rfl) (fun _ _ _ h => h) (Or.inl ⟨by rfl, ?_⟩) (by first | exact hHeld | assumption) ?_
      rotate_left
      · (intro w hSw; (try dsimp only at hSw); (try unfold SN at hSw); go_simp)
        try with_reducible rfl
      try simp only [Act.put, List.getElem_toArray, List.getElem_cons_succ, List.getElem_cons_zero, List.setIfInBounds_toArray, List.set_cons_zero, List.set_cons_succ]
      refine Go.wpAnyH_take (fuel := 33) (i := 11) (oi := _) (v := ?_) rfl (by kernel_rfl) (by kernel_rfl) (by kernel_rfl) (fun _ _ _ h => h) (Or.inl ⟨by rfl, ?_⟩) (by first | exact hHeld | assumption) ?_
      rotate_left
      · (intro w hSw; (try dsimp only at hSw); (try unfold SN at hSw); go_simp)
        try with_reducible rfl
      try simp only [Act.put, List.getElem_toArray, List.getElem_cons_succ, List.getElem_cons_zero, List.setIfInBounds_toArray, List.set_cons_zero, List.set_cons_succ]
      refine Go.wpAnyH_take (fuel := 32) (i := 12) (oi := _) (v := ?_) rfl (by kernel_rfl) (by kernel_rfl) (by kernel_rfl) (fun _ _ _ h => h) (Or.inl ⟨by rfl, ?_⟩) (by first | exact hHeld | assumption) ?_
      rotate_left
      · (intro w hSw; (try dsimp only at hSw); (try unfold SN at hSw); go_simp)
        try with_reducible rfl
      try simp only [Act.put, List.getElem_toArray, List.getElem_cons_succ, List.getElem_cons_zero, List.setIfInBounds_toArray, List.set_cons_zero, List.set_cons_succ]
      refine Go.wpAnyH_take (fuel := 31) (i := 13) (oi := _) (v := ?_) rfl (by kernel_rfl) (by kernel_rfl) (by kernel_rfl) (fun _ _ _ h => h) (Or.inl ⟨by rfl, ?_⟩) (by first | exact hHeld | assumption) ?_
      rotate_left
      · (intro w hSw; (try dsimp only at hSw); (try unfold SN at hSw); go_simp)
        try with_reducible rfl
      try simp only [Act.put, List.getElem_toArray, List.getElem_cons_succ, List.getElem_cons_zero, List.setIfInBounds_toArray, List.set_cons_zero, List.set_cons_succ]
      refine Go.wpAnyH_take (fuel := 30) (i := 14) (oi := _) (v := ?_) rfl (by kernel_rfl) (by kernel_rfl) (by kernel_rfl) (fun _ _ _ h => h) (Or.inl ⟨by rfl, ?_⟩) (by first | exact hHeld | assumption) ?_
      rotate_left
      · (intro w hSw; (try dsimp only at hSw); (try unfold SN at hSw); go_simp)
        try with_reducible rfl
      try simp only [Act.put, List.getElem_toArray, List.getElem_cons_succ, List.getElem_cons_zero, List.setIfInBounds_toArray, List.set_cons_zero, List.set_cons_succ]
      refine Go.wpAnyH_take (fuel := 29) (i := 15) (oi := _) (v := ?_) rfl (by kernel_rfl) (by kernel_rfl) (by kernel_rfl) (fun _ _ _ h => h) (Or.inl ⟨by rfl, ?_⟩) (by first | exact hHeld | assumption) ?_
      rotate_left
      · (intro w hSw; (try dsimp only at hSw); (try unfold SN at hSw); go_simp)
        try with_reducible rfl
      try simp only [Act.put, List.getElem_toArray, List.getElem_cons_succ, List.getElem_cons_zero, List.setIfInBounds_toArray, List.set_cons_zero, List.set_cons_succ]
      refine Go.wpAnyH_take (fuel := 28) (i := 16) (oi := _) (v := ?_) rfl (by kernel_rfl) (by kernel_rfl) (by kernel_rfl) (fun _ _ _ h => h) (Or.inl ⟨by rfl, ?_⟩) (by first | exact hHeld | assumption) ?_
      rotate_left
      · (intro w hSw; (try dsimp only at hSw); (try unfold SN at hSw); go_simp)
        try with_reducible rfl
      try simp only [Act.put, List.getElem_toArray, List.getElem_cons_succ, List.getElem_cons_zero, List.setIfInBounds_toArray, List.set_cons_zero, List.set_cons_succ]
      refine Go.wpAnyH_take (fuel := 27) (i := 17) (oi := _) (v := ?_) rfl (by kernel_rfl) (by kernel_rfl) (by kernel_rfl) (fun _ _ _ h => h) (Or.inl ⟨by rfl, ?_⟩) (by first | exact hHeld | assumption) ?_
      rotate_left
      · (intro w hSw; (try dsimp only at hSw); (try unfold SN at hSw); go_simp)
        try with_reducible rfl
      try simp only [Act.put, List.getElem_toArray, List.getElem_cons_succ, List.getElem_cons_zero, List.setIfInBounds_toArray, List.set_cons_zero, List.set_cons_succ]
      refine Go.wpAnyH_take (fuel := 26) (i := 18) (oi := _) (v := ?_) rfl (by kernel_rfl) (by kernel_rfl) (by kernel_rfl) (fun _ _ _ h => h) (Or.inl ⟨by rfl, ?_⟩) (by first | exact hHeld | assumption) ?_
      rotate_left
      · (intro w hSw; (try dsimp only at hSw); (try unfold SN at hSw); go_simp)
        try with_reducible rfl
      try simp only [Act.put, List.getElem_toArray, List.getElem_cons_succ, List.getElem_cons_zero, List.setIfInBounds_toArray, List.set_cons_zero, List.set_cons_succ]
      refine Go.wpAnyH_ready (fuel := 25) (rs := [19]) (by kernel_rfl) (by simp) ?_
      refine Go.AllReadyH.cons (o := _) rfl (fun K hK => ?_) Go.AllReadyH.nil
      have HKX := Lib.hid hK
      clear hK
      go_simp
      go_at_call 48
      refine (KT.out _).mono ?_
      rintro e w8 ⟨rfl, hb8⟩
      have HB8 := Lib.hid (HB7.out.trans (hb8.mono HB7.out.size))
      clear hb8
      have k2s := HCL.out _ HB8.out
      refine HKX.out.out _ _ k2s (fun hHeld => ?_)
      clear HKX
      try simp only [Act.put, List.getElem_toArray, List.getElem_cons_succ, List.getElem_cons_zero, List.setIfInBounds_toArray, List.set_cons_zero, List.set_cons_succ]
      refine Go.wpAnyH_take (fuel := 24) (i := 20) (oi := _) (v := ?_) rfl (by kernel_rfl) (by kernel_rfl) (by kernel_rfl) (fun _ _ _ h => h) (Or.inl ⟨by rfl, ?_⟩) (by first | exact hHeld | assumption) ?_
      rotate_left
      · (intro w hSw; (try dsimp only at hSw); (try unfold SN at hSw); go_simp)
        try with_reducible rfl
      try simp only [Act.put, List.getElem_toArray, List.getElem_cons_succ, List.getElem_cons_zero, List.setIfInBounds_toArray, List.set_cons_zero, List.set_cons_succ]
      refine Go.wpAnyH_take (fuel := 23) (i := 21) (oi := _) (v := ?_) rfl (by kernel_rfl) (by kernel_rfl) (by kernel_rfl) (fun _ _ _ h => h) (Or.inl ⟨by rfl, ?_⟩) (by first | exact hHeld | assumption) ?_
      rotate_left
      · (intro w hSw; (try dsimp only at hSw); (try unfold SN at hSw); go_simp)
        try with_reducible rfl
      try simp only [Act.put, List.getElem_toArray, List.getElem_cons_succ, List.getElem_cons_zero, List.setIfInBounds_toArray, List.set_cons_zero, List.set_cons_succ]
      refine Go.wpAnyH_take (fuel := 22) (i := 22) (oi := _) (v := ?_) rfl (by kernel_rfl) (by kernel_rfl) (by kernel_rfl) (fun _ _ _ h => h) (Or.inl ⟨by rfl, ?_⟩) (by first | exact hHeld | assumption) ?_
      rotate_left
      · (intro w hSw; (try dsimp only at hSw); (try unfold SN at hSw); go_simp)
        try with_reducible rfl
      try simp only [Act.put, List.getElem_toArray, List.getElem_cons_succ, List.getElem_cons_zero, List.setIfInBounds_toArray, List.set_cons_zero, List.set_cons_succ]
      refine Go.wpAnyH_take (fuel := 21) (i := 23) (oi := _) (v := ?_) rfl (by kernel_rfl) (by kernel_rfl) (by kernel_rfl) (fun _ _ _ h => h) (Or.inl ⟨by rfl, ?_⟩) (by first | exact hHeld | assumption) ?_
      rotate_left
      · (intro w hSw; (try dsimp only at hSw); (try unfold SN at hSw); go_simp)
        try with_reducible rfl
      try simp only [Act.put, List.getElem_toArray, List.getElem_cons_succ, List.getElem_cons_zero, List.setIfInBounds_toArray, List.set_cons_zero, List.set_cons_succ]
      refine Go.wpAnyH_take (fuel := 20) (i := 24) (oi := _) (v := ?_) rfl (by kernel_rfl) (by kernel_rfl) (by kernel_rfl) (fun _ _ _ h => h) (Or.inl ⟨by rfl, ?_⟩) (by first | exact hHeld | assumption) ?_
      rotate_left
      · (intro w hSw; (try dsimp only at hSw); (try unfold SN at hSw); go_simp)
        try with_reducible rfl
      try simp only [Act.put, List.getElem_toArray, List.getElem_cons_succ, List.getElem_cons_zero, List.setIfInBounds_toArray, List.set_cons_zero, List.set_cons_succ]
      refine Go.wpAnyH_take (fuel := 19) (i := 25) (oi := _) (v := ?_) rfl (by kernel_rfl) (by kernel_rfl) (by kernel_rfl) (fun _ _ _ h => h) (Or.inl ⟨by rfl, ?_⟩) (by first | exact hHeld | assumption) ?_
      rotate_left
      · (intro w hSw; (try dsimp only at hSw); (try unfold SN at hSw); go_simp)
        try with_reducible rfl
      try simp only [Act.put, List.getElem_toArray, List.getElem_cons_succ, List.getElem_cons_zero, List.setIfInBounds_toArray, List.set_cons_zero, List.set_cons_succ]
      refine Go.wpAnyH_take (fuel := 18) (i := 26) (oi := _) (v := ?_) rfl (by kernel_rfl) (by kernel_rfl) (by kernel_rfl) (fun _ _ _ h => h) (Or.inl ⟨by rfl, ?_⟩) (by first | exact hHeld | assumption) ?_
      rotate_left
      · (intro w hSw; (try dsimp only at hSw); (try unfold SN at hSw); go_simp)
        try with_reducible rfl
      try simp only [Act.put, List.getElem_toArray, List.getElem_cons_succ, List.getElem_cons_zero, List.setIfInBounds_toArray, List.set_cons_zero, List.set_cons_succ]
      refine Go.wpAnyH_take (fuel := 17) (i := 27) (oi := _) (v := ?_) rfl (by kernel_rfl) (by kernel_rfl) (by kernel_rfl) (fun _ _ _ h => h) (Or.inl ⟨by rfl, ?_⟩) (by first | exact hHeld | assumption) ?_
      rotate_left
      · (intro w hSw; (try dsimp only at hSw); (try unfold SN at hSw); go_simp)
        try with_reducible rfl
      try simp only [Act.put, List.getElem_toArray, List.getElem_cons_succ, List.getElem_cons_zero, List.setIfInBounds_toArray, List.set_cons_zero, List.set_cons_succ]
      refine Go.wpAnyH_take (fuel := 16) (i := 28) (oi := _) (v := ?_) rfl (by kernel_rfl) (by kernel_rfl) (by kernel_rfl) (fun _ _ _ h => h) (Or.inl ⟨by rfl, ?_⟩) (by first | exact hHeld | assumption) ?_
      rotate_left
      · (intro w hSw; (try dsimp only at hSw); (try unfold SN at hSw); go_simp)
        try with_reducible rfl
      try simp only [Act.put, List.getElem_toArray, List.getElem_cons_succ, List.getElem_cons_zero, List.setIfInBounds_toArray, List.set_cons_zero, List.set_cons_succ]
      refine Go.wpAnyH_ready (fuel := 15) (rs := [29]) (by kernel_rfl) (by simp) ?_
      refine Go.AllReadyH.cons (o := _) rfl (fun K hK => ?_) Go.AllReadyH.nil
      have HKX := Lib.hid hK
      clear hK
      go_simp
      go_at_call 21
      refine (one_anyA _).mono ?_
      rintro e w9 ⟨rfl, hb9⟩
      have HB9 := Lib.hid (HB8.out.trans (hb9.mono HB8.out.size))
      clear hb9
      have k3s := HCL.out _ HB9.out
      refine HKX.out.out _ _ k3s (fun hHeld => ?_)
      clear HKX
      try simp only [Act.put, List.getElem_toArray, List.getElem_cons_succ, List.getElem_cons_zero, List.setIfInBounds_toArray, List.set_cons_zero, List.set_cons_succ]
      refine Go.wpAnyH_take (fuel := 14) (i := 30) (oi := _) (v := ?_) rfl (by kernel_rfl) (by kernel_rfl) (by kernel_rfl) (fun _ _ _ h => h) (Or.inl ⟨by rfl, ?_⟩) (by first | exact hHeld | assumption) ?_
      rotate_left
      · (intro w hSw; (try dsimp only at hSw); (try unfold SN at hSw); go_simp)
        try with_reducible rfl
      try simp only [Act.put, List.getElem_toArray, List.getElem_cons_succ, List.getElem_cons_zero, List.setIfInBounds_toArray, List.set_cons_zero, List.set_cons_succ]
      refine Go.wpAnyH_take (fuel := 13) (i := 31) (oi := _) (v := ?_) rfl (by kernel_rfl) (by kernel_rfl) (by kernel_rfl) (fun _ _ _ h => h) (Or.inl ⟨by rfl, ?_⟩) (by first | exact hHeld | assumption) ?_
      rotate_left
      · (intro w hSw; (try dsimp only at hSw); (try unfold SN at hSw); go_simp)
        try with_reducible rfl
      try simp only [Act.put, List.getElem_toArray, List.getElem_cons_succ, List.getElem_cons_zero, List.setIfInBounds_toArray, List.set_cons_zero, List.set_cons_succ]
      refine Go.wpAnyH_take (fuel := 12) (i := 32) (oi := _) (v := ?_) rfl (by kernel_rfl) (by kernel_rfl) (by kernel_rfl) (fun _ _ _ h => h) (Or.inl ⟨by rfl, ?_⟩) (by first | exact hHeld | assumption) ?_
      rotate_left
      · (intro w hSw; (try dsimp only at hSw); (try unfold SN at hSw); go_simp)
        try with_reducible rfl
      try simp only [Act.put, List.getElem_toArray, List.getElem_cons_succ, List.getElem_cons_zero, List.setIfInBounds_toArray, List.set_cons_zero, List.set_cons_succ]
      refine Go.wpAnyH_take (fuel := 11) (i := 33) (oi := _) (v := undef) rfl (by kernel_rfl) (by kernel_rfl) (by kernel_rfl) (fun _ _ _ h => h) (Or.inr ⟨by rfl, rfl⟩) (by first | exact hHeld | assumption) ?_
      try simp only [Act.put, List.getElem_toArray, List.getElem_cons_succ, List.getElem_cons_zero, List.setIfInBounds_toArray, List.set_cons_zero, List.set_cons_succ]
      refine Go.wpAnyH_take (fuel := 10) (i := 34) (oi := _) (v := undef) rfl (by kernel_rfl) (by kernel_rfl) (by kernel_rfl) (fun _ _ _ h => h) (Or.inr ⟨by rfl, rfl⟩) (by first | exact hHeld | assumption) ?_
      try simp only [Act.put, List.getElem_toArray, List.getElem_cons_succ, List.getElem_cons_zero, List.setIfInBounds_toArray, List.set_cons_zero, List.set_cons_succ]
      refine Go.wpAnyH_take (fuel := 9) (i := 35) (oi := _) (v := undef) rfl (by kernel_rfl) (by kernel_rfl) (by kernel_rfl) (fun _ _ _ h => h) (Or.inr ⟨by rfl, rfl⟩) (by first | exact hHeld | assumption) ?_
      try simp only [Act.put, List.getElem_toArray, List.getElem_cons_succ, List.getElem_cons_zero, List.setIfInBounds_toArray, List.set_cons_zero, List.set_cons_succ]
      refine Go.wpAnyH_take (fuel := 8) (i := 36) (oi := _) (v := undef) rfl (by kernel_rfl) (by kernel_rfl) (by kernel_rfl) (fun _ _ _ h => h) (Or.inr ⟨by rfl, rfl⟩) (by first | exact hHeld | assumption) ?_
      try simp only [Act.put, List.getElem_toArray, List.getElem_cons_succ, List.getElem_cons_zero, List.setIfInBounds_toArray, List.set_cons_zero, List.set_cons_succ]
      refine Go.wpAnyH_take (fuel := 7) (i := 37) (oi := _) (v := undef) rfl (by kernel_rfl) (by kernel_rfl) (by kernel_rfl) (fun _ _ _ h => h) (Or.inr ⟨by rfl, rfl⟩) (by first | exact hHeld | assumption) ?_
      try simp only [Act.put, List.getElem_toArray, List.getElem_cons_succ, List.getElem_cons_zero, List.setIfInBounds_toArray, List.set_cons_zero, List.set_cons_succ]
      refine Go.wpAnyH_take (fuel := 6) (i := 38) (oi := _) (v := undef) rfl (by kernel_rfl) (by kernel_rfl) (by kernel_rfl) (fun _ _ _ h => h) (Or.inr ⟨by rfl, rfl⟩) (by first | exact hHeld | assumption) ?_
      try simp only [Act.put, List.getElem_toArray, List.getElem_cons_succ, List.getElem_cons_zero, List.setIfInBounds_toArray, List.set_cons_zero, List.set_cons_succ]
      refine Go.wpAnyH_take (fuel := 5) (i := 39) (oi := _) (v := undef) rfl (by kernel_rfl) (by kernel_rfl) (by kernel_rfl) (fun _ _ _ h => h) (Or.inr ⟨by rfl, rfl⟩) (by first | exact hHeld | assumption) ?_
      try simp only [Act.put, List.getElem_toArray, List.getElem_cons_succ, List.getElem_cons_zero, List.setIfInBounds_toArray, List.set_cons_zero, List.set_cons_succ]
      refine Go.wpAnyH_take (fuel := 4) (i := 40) (oi := _) (v := undef) rfl (by kernel_rfl) (by kernel_rfl) (by kernel_rfl) (fun _ _ _ h => h) (Or.inr ⟨by rfl, rfl⟩) (by first | exact hHeld | assumption) ?_
      try simp only [Act.put, List.getElem_toArray, List.getElem_cons_succ, List.getElem_cons_zero, List.setIfInBounds_toArray, List.set_cons_zero, List.set_cons_succ]
      refine Go.wpAnyH_take (fuel := 3) (i := 41) (oi := _) (v := undef) rfl (by kernel_rfl) (by kernel_rfl) (by kernel_rfl) (fun _ _ _ h => h) (Or.inr ⟨by rfl, rfl⟩) (by first | exact hHeld | assumption) ?_
      try simp only [Act.put, List.getElem_toArray, List.getElem_cons_succ, List.getElem_cons_zero, List.setIfInBounds_toArray, List.set_cons_zero, List.set_cons_succ]
      refine Go.wpAnyH_take (fuel := 2) (i := 42) (oi := _) (v := ?_) rfl (by kernel_rfl) (by kernel_rfl) (by kernel_rfl) (fun _ _ _ h => h) (Or.inl ⟨by rfl, ?_⟩) (by first | exact hHeld | assumption) ?_
      rotate_left
      · (intro w hSw; (try dsimp only at hSw); (try unfold SN at hSw); go_simp)
        try with_reducible rfl
      try simp only [Act.put, List.getElem_toArray, List.getElem_cons_succ, List.getElem_cons_zero, List.setIfInBounds_toArray, List.set_cons_zero, List.set_cons_succ]
      refine Go.wpAnyH_take (fuel := 1) (i := 43) (oi := _) (v := ?_) rfl (by kernel_rfl) (by kernel_rfl) (by kernel_rfl) (fun _ _ _ h => h) (Or.inl ⟨by rfl, ?_⟩) (by first | exact hHeld | assumption) ?_
      rotate_left
      · (intro w hSw; (try dsimp only at hSw); (try unfold SN at hSw); go_simp)
        try with_reducible rfl
      try simp only [Act.put, List.getElem_toArray, List.getElem_cons_succ, List.getElem_cons_zero, List.setIfInBounds_toArray, List.set_cons_zero, List.set_cons_succ]
      refine Go.wpAnyH_take (fuel := 0) (i := 44) (oi := _) (v := ?_) rfl (by kernel_rfl) (by kernel_rfl) (by kernel_rfl) (fun _ _ _ h => h) (Or.inl ⟨by rfl, ?_⟩) (by first | exact hHeld | assumption) ?_
      rotate_left
      · (intro w hSw; (try dsimp only at hSw); (try unfold SN at hSw); go_simp)
        try with_reducible rfl
      try simp only [Act.put, List.getElem_toArray, List.getElem_cons_succ, List.getElem_cons_zero, List.setIfInBounds_toArray, List.set_cons_zero, List.set_cons_succ]
      refine Go.wpAnyH_done (by kernel_rfl) ?_ _
      have HFIN := Lib.hid (HB6.out.trans (HB9.out.mono HB6.out.size))
      clear HCL KW KT s0 k1s k2s k3s HB9 HB7 HB8 HB6 p0 p1 p2 p3 p4 p5 o0 o1 m0 m1 HSH
      go_wp2
      go_ret
      exact ⟨rfl, HFIN.out⟩
/-- what is told of a request is so on the ground of now -/
theorem good_any (h : SV b0 w Z W H AC cC l turn σ D) {i : Nat} (hi : i < 6) {g : Slt} (hg : σ i = some g) :
    Calls Try.prog 22 #[.pointer (some ⟨Z, 0, none⟩), .int .i64 i, .int .i64 g.f, .int .i64 g.F.tt] w fun e w' => e = .returned (.bool true) ∧ Below w.heap.size w w' := by
  obtain ⟨st, r, hp, ⟨_, rfl, _⟩ | ⟨_, rfl, _⟩ | ⟨R0, hr, hst⟩⟩ := poll_any h hi hg
  · exact good_one h hi hg hp
  · exact good_three h hi hg hp
  · by_cases ho : g.s.rds.length = g.F.ws.length
    · rw [if_pos ho] at hst; subst hst; exact good_four h hi hg hp hr
    · rw [if_neg ho] at hst; subst hst; exact good_two h hi hg hp hr
end
end Go.Proofs.Ytpoolpaagbeokaa.ServeG

namespace Go.Proofs.Ytpoolpaagbeokaa.Serve
open Go.RowKit Go.Proofs.Ytpoolpaagbeokaa NetLaw BellLaw StarLaw AraLaw Go.Proofs.Ytpoolpaagbeokaa.Net Go.Proofs.Ytpoolpaagbeokaa.Std Go.Proofs.Ytpoolpaagbeokaa.Flow Go.Proofs.Ytpoolpaagbeokaa.Ara Go.Proofs.Ytpoolpaagbeokaa.GroundLaw
open Go.Proofs.Ytpoolpaagbeokaa.GridLaw hiding E
open Go.Proofs.Ytpoolpaagbeokaa.ServeLaw
set_option linter.unusedSimpArgs false
set_option linter.unusedVariables false
theorem sl_pair {w : World} {B : Nat} {A : Option Addr} {l : List (Int × Int)} (h : Sl w B 2 cp A l) {k : Nat} (hk : k < l.length) :
    ∃ b off f t, A = some ⟨b, off, none⟩ ∧ b < B ∧ l[k] = (f, t) ∧ w.cell? ⟨b, off + k * 2, none⟩ = some (.int .i64 f) ∧ w.cell? ⟨b, off + k * 2 + 1, none⟩ = some (.int .i64 t) := by
  obtain ⟨b, off, hA, hlt, hc⟩ := h (by omega)
  exact ⟨b, off, _, _, hA, hlt, rfl, hc k hk 0 (by omega), hc k hk 1 (by omega)⟩
/-- a request of weight one on the small ground -/
theorem ask_s {b0 : Nat} {w : World} {Z : Nat} {A : Option Addr} {c : Nat} (h : SV b0 w Z 2 1 A c [1, 2] 0 (fun _ => none) (fun _ _ => False)) (S : Nat) (hs : Sl w w.heap.size 2 cp (some ⟨S, 0, none⟩) [(1, 1)]) :
    Calls Try.prog 11 #[.pointer (some ⟨Z, 0, none⟩), .int .i64 0, .int .i64 1, .slice (some ⟨S, 0, none⟩) 1 1] w fun e w' => ∃ g D', e = .returned (.tuple #[.int .i64 0, .int .i64 0]) ∧ SV b0 w' Z 2 1 A c [1, 2] 0 (upd1 (fun _ => none) 0 (some g)) (upd1 (fun _ _ => False) 0 D') ∧ Off (fun x => x = Z) w w' ∧ g.f = 0 ∧ g.F.tt = 1 ∧ g.F.ws = [(1, 1)] ∧ g.k = 0 := by
  have key := ask_yes h 0 1 (some ⟨S, 0, none⟩) 1 [(1, 1)] hs (fun e => by cases e) (by decide) (by decide) (by decide) (by decide) 0 (by decide) (fun _ => rfl) (fun j hj => by omega)
  refine Calls.mono key ?_
  rintro e w' (⟨h6, _⟩ | ⟨_, g, D', e1, e2, e3, e4, e5, e6, e7, _⟩)
  · cases h6
  · exact ⟨g, D', e1, e2, e3, e4, e5, e6, e7⟩
theorem all_s : allM 2 1 [1, 2] 2 = [(0, 1, 15), (1, 0, 15)] := by decide +kernel
def ls : List E := [(0, 1, 15), (1, 0, 15)]
def ts1 : AS := ⟨[0, 15], [-1, 0], [true, false], up (up (up (fun _ => false) 0 true) 0 false) 1 true, fun _ => false, 1, []⟩
def ts2 : AS := told [(1, 1)] ([0, 1], 15) ts1
theorem op_ts1 {v : Int} (h : AraLaw.Op 2 ts1 v) : v = 1 := by
  obtain ⟨⟨h0, h2⟩, h3⟩ := h
  have : v = 0 ∨ v = 1 := by omega
  rcases this with rfl | rfl
  · revert h3; decide
  · rfl
theorem nx_ts1 : NxA 2 (1, 1) [0, 0] ts1 1 := ⟨⟨⟨by decide, by decide⟩, by decide⟩, fun u hu => by rw [op_ts1 hu]; exact lt3_self _⟩
theorem exp_ts : expand ls [0, 0] 0 t0 = ts1 := rfl
theorem best_ts : BestA 2 1 ls ts1 ([0, 1], 15) := .inr ⟨by decide, [1, 0], Ch.more (by decide) (Ch.last rfl), rfl⟩
theorem run_s0 : Rn 2 1 ls [0, 0] [(1, 1)] 0 0 t0 := Rn.start (by
  show Stl 2 1 ls [0, 0] [(1, 1)] (init 2 [0, 0] 0) t0
  rw [init_t]
  exact Stl.wait (by decide) ⟨0, nx_t0, .inl rfl⟩)
theorem run_s2 : Rn 2 1 ls [0, 0] [(1, 1)] 0 1 ts2 := Rn.step run_s0 (by decide) nx_t0 (by
  rw [exp_ts]
  exact Stl.last rfl (.inr ⟨1, nx_ts1, by decide, by decide⟩) best_ts)
/-- on the small ground a request takes one step -/
theorem ov_s {k : Nat} : Ov 2 1 (allM 2 1 [1, 2] 2) [(1, 1)] 0 k ↔ k = 1 := by
  have hz : zs 2 = [0, 0] := rfl
  unfold Ov
  rw [all_s, hz]
  constructor
  · rintro ⟨s, h1, h2⟩
    exact (h1.one run_s2 h2 rfl).1
  · rintro rfl
    exact ⟨ts2, run_s2, rfl⟩
end Go.Proofs.Ytpoolpaagbeokaa.Serve

namespace Go.Proofs.Ytpoolpaagbeokaa.Serve
open Go.RowKit Go.Proofs.Ytpoolpaagbeokaa NetLaw BellLaw StarLaw AraLaw Go.Proofs.Ytpoolpaagbeokaa.Net Go.Proofs.Ytpoolpaagbeokaa.Std Go.Proofs.Ytpoolpaagbeokaa.Flow Go.Proofs.Ytpoolpaagbeokaa.Ara Go.Proofs.Ytpoolpaagbeokaa.GroundLaw
open Go.Proofs.Ytpoolpaagbeokaa.GridLaw hiding E
open Go.Proofs.Ytpoolpaagbeokaa.ServeLaw
set_option linter.unusedSimpArgs false
set_option linter.unusedVariables false
/-- requests that were taken, in their order -/
structure Reqs (σ : Nat → Option Slt) (k : Nat) (R : List E) : Prop where
  len : R.length = k
  som : ∀ m, m < k → ∃ g, σ m = some g ∧ R[m]? = some ((m : Int), (g.f : Int), (g.F.tt : Int))
  non : ∀ m, k ≤ m → σ m = none
theorem Reqs.start : Reqs (fun _ => none) 0 [] := ⟨rfl, fun m hm => by omega, fun _ _ => rfl⟩
theorem Reqs.add {σ : Nat → Option Slt} {k : Nat} {R : List E} (h : Reqs σ k R) (g : Slt) : Reqs (upd1 σ k (some g)) (k + 1) (R ++ [((k : Int), (g.f : Int), (g.F.tt : Int))]) := by
  refine ⟨by rw [List.length_append, h.len]; rfl, fun m hm => ?_, fun m hm => by rw [upd1_ne _ _ (by omega)]; exact h.non m (by omega)⟩
  by_cases e : m = k
  · subst e
    refine ⟨g, upd1_eq .., ?_⟩
    rw [List.getElem?_append_right (by rw [h.len]; exact Nat.le_refl _), h.len, Nat.sub_self]
    rfl
  · obtain ⟨g0, h1, h2⟩ := h.som m (by omega)
    refine ⟨g0, by rw [upd1_ne _ _ e]; exact h1, ?_⟩
    rw [List.getElem?_append_left (by rw [h.len]; omega)]
    exact h2
theorem Reqs.went {σ σ' : Nat → Option Slt} {k : Nat} {R : List E} (h : Reqs σ k R) (hw : Went σ σ') : Reqs σ' k R :=
  ⟨h.len, fun m hm => by
    obtain ⟨g, h1, h2⟩ := h.som m hm
    obtain ⟨Y, s, k', e⟩ := hw.get h1
    exact ⟨_, e, h2⟩, fun m hm => hw.none_ (h.non m hm)⟩
/-- on the small ground a frame takes the one step -/
theorem frame_s {g : Slt} (gf : g.f = 0) (gt : g.F.tt = 1) (gw : g.F.ws = [(1, 1)]) (gk : g.k = 0) {u t' : Nat} {c' : Nat → Nat} (hr : Run (Tk 2 (allM 2 1 [1, 2] 2) (upd1 (fun _ => none) 0 (some g))) 0 (cnt (upd1 (fun _ => none) 0 (some g))) u t' c') (hs : u < 9 → Stuck (Tk 2 (allM 2 1 [1, 2] 2) (upd1 (fun _ => none) 0 (some g))) c') : u = 1 := by
  have hT : ∀ i k, Tk 2 (allM 2 1 [1, 2] 2) (upd1 (fun _ => none) 0 (some g)) i k = true ↔ i = 0 ∧ k ≠ 1 := by
    intro i k
    by_cases e : i = 0
    · subst e
      rw [tk_some (upd1_eq ..), gt, gw, gf, ov_s]
      exact ⟨fun h => ⟨rfl, h⟩, fun h => h.2⟩
    · rw [tk_none (by rw [upd1_ne _ _ e])]
      exact ⟨fun h => (nomatch h), fun h => absurd h.1 e⟩
  have h0 : cnt (upd1 (fun _ => none) 0 (some g)) 0 = 0 := by unfold cnt; rw [upd1_eq]; exact gk
  have key : u ≤ 1 ∧ c' 0 = u := by
    clear hs
    induction hr with
    | zero => exact ⟨by decide, h0⟩
    | @step n t1 d c1 hr hf ih =>
      obtain ⟨h1, h2⟩ := ih
      obtain ⟨a1, a2⟩ := (hT _ _).1 hf.yes
      rw [a1] at a2 ⊢
      unfold bump
      rw [if_pos rfl]
      omega
  rcases Nat.eq_zero_or_pos u with e | e
  · have h1 := hs (by omega) 0 (by decide)
    have h2 := (hT 0 (c' 0)).2 ⟨rfl, by omega⟩
    rw [h1] at h2
    cases h2
  · omega
section
variable {b0 : Nat} {w w' : World} {Z : Nat} {W H : Int} {AC : Option Addr} {cC : Nat} {l : List Int} {turn : Nat} {σ : Nat → Option Slt} {D : Nat → Nat → Prop}
theorem SV.off (h : SV b0 w Z W H AC cC l turn σ D) {D2 : Nat → Prop} (ho : Off D2 w w') (hZ : ¬ D2 Z) (hC : ∀ x, ob AC = some x → ¬ D2 x) (hd : ∀ i, i < 6 → ∀ x, D i x → ¬ D2 x) : SV b0 w' Z W H AC cC l turn σ D :=
  ⟨blk_off h.z ho hZ, h.zl, own_off h.cells ho hC, h.good, h.tl, fun i hi g e => (h.slot i hi g e).off ho (hd i hi), h.sepD, h.out, fun i hi x hx => ⟨(h.dom i hi x hx).1, Nat.lt_of_lt_of_le (h.dom i hi x hx).2 ho.size⟩⟩
theorem Off.grown {row : Option Nat} (h : w.grownBy w' row) : Off (fun x => row = some x) w w' := ⟨h.os, h.tape, h.output, h.size, fun g hg hn => h.block g hg (fun e => hn e.symm)⟩
theorem SV.Zlt (h : SV b0 w Z W H AC cC l turn σ D) : Z < w.heap.size := h.zs.2.2.2.2.2
/-- a search that is over took no more than 512 steps -/
theorem SL.k512 {n : Nat} {m : List E} {Dk : Nat → Prop} {g : Slt} (h : SL b0 w n m Dk g) (ho : g.s.rds.length = g.F.ws.length) : g.k ≤ 512 := by
  obtain ⟨e1, e2, e3⟩ := h.net
  obtain ⟨⟨w1, w8⟩, _⟩ := wcode_ok h.wc
  have hld := h.sr.run.lastD w1 ho
  obtain ⟨V, _, _, hRI⟩ := h.sr.si h.fo h.po
  have hn : g.F.n ≤ 64 := by have := h.fo.gd.hi; omega
  have h1 := hRI.ld
  have h2 : g.s.rds.length ≤ 8 := by omega
  have h4 : (g.F.n : Int) * g.s.rds.length ≤ 64 * 8 := Int.mul_le_mul (by omega) (by omega) (by omega) (by omega)
  omega
/-- where none has a step to take, all are over -/
theorem SV.stuck_over {σ0 : Nat → Option Slt} (h : SV b0 w Z W H AC cC l turn σ D) (wt : Went σ0 σ) (hs : Stuck (Tk l.length (allM W H l l.length) σ0) (cnt σ)) : ∀ i, i < 6 → ∀ g, σ i = some g → g.s.rds.length = g.F.ws.length := fun i hi g hg => by
  have h1 := hs i hi
  rw [← wt.tk] at h1
  have h2 := h.tk hi hg
  rw [h1] at h2
  by_cases e : g.s.rds.length = g.F.ws.length
  · exact e
  · have := h2.2 e; cases this
/-- all requests over: no more than 3072 steps in all -/
theorem SV.sum_over (h : SV b0 w Z W H AC cC l turn σ D) (ho : ∀ i, i < 6 → ∀ g, σ i = some g → g.s.rds.length = g.F.ws.length) {T : Sch} {t0 n : Nat} {c : Nat → Nat} (hr : Run T t0 c n turn (cnt σ)) : n ≤ 3072 := hr.le (m := 512) (fun i hi => by
  unfold cnt
  cases hg : σ i with
  | none => exact Nat.zero_le _
  | some g => exact (h.slot i hi g hg).k512 (ho i hi g hg))
/-- a slot that is over was told a round -/
theorem SL.last_ {n : Nat} {m : List E} {Dk : Nat → Prop} {g : Slt} (h : SL b0 w n m Dk g) (ho : g.s.rds.length = g.F.ws.length) : ∃ R0 r, g.s.rds = R0 ++ [r] := by
  obtain ⟨⟨w1, _⟩, _⟩ := wcode_ok h.wc
  rcases List.eq_nil_or_concat g.s.rds with hr | ⟨R0, r, hr⟩
  · rw [hr] at ho; simp at ho; omega
  · exact ⟨R0, r, by rw [hr, List.concat_eq_append]⟩
end
end Go.Proofs.Ytpoolpaagbeokaa.Serve
