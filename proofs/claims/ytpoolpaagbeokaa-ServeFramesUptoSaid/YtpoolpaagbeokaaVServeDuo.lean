/- The small ground of serve's laws: one request there, one step. -/
/- A service beside other things in memory: what is written elsewhere leaves it. How many steps there are. -/
/- The walk of (*serve.Service).Poll: a request that was told something on other ground. -/
/- Two services side by side, and when two answers are the same. -/
import Derived.Test.YtpoolpaagbeokaaVServeUse
import Derived.Test.YtpoolpaagbeokaaVAraUse2
namespace Go.Proofs.Ytpoolpaagbeokaa.Serve
open Go.RowKit Go.Proofs.Ytpoolpaagbeokaa NetLaw BellLaw StarLaw AraLaw Go.Proofs.Ytpoolpaagbeokaa.Net Go.Proofs.Ytpoolpaagbeokaa.Std Go.Proofs.Ytpoolpaagbeokaa.Flow Go.Proofs.Ytpoolpaagbeokaa.Ara Go.Proofs.Ytpoolpaagbeokaa.GroundLaw
open Go.Proofs.Ytpoolpaagbeokaa.GridLaw hiding E
open Go.Proofs.Ytpoolpaagbeokaa.ServeLaw
set_option linter.unusedSimpArgs false
set_option linter.unusedVariables false
theorem sl_pair {w : World} {B : Nat} {A : Option Addr} {l : List (Int × Int)} (h : Sl w B 2 cp A l) {k : Nat} (hk : k < l.length) :
    ∃ b off f t, A = some ⟨b, off, none⟩ ∧ b < B ∧ l[k] = (f, t) ∧ w.cell? ⟨b, off + k * 2, none⟩ = some (.int .i64 f) ∧ w.cell? ⟨b, off + k * 2 + 1, none⟩ = some (.int .i64 t) := by
  obtain ⟨b, off, hA, hlt, hc⟩ := h (by omega)
  exact ⟨b, off, _, _, hA, hlt, rfl, hc k hk 0 (by omega), hc k hk 1 (by omega)⟩
/-- a request of weight one on the small ground -/
theorem ask_s {b0 : Nat} {w : World} {Z : Nat} {A : Option Addr} {c : Nat} (h : SV b0 w Z 2 1 A c [1, 2] 0 (fun _ => none) (fun _ _ => False)) (S : Nat) (hs : Sl w w.heap.size 2 cp (some ⟨S, 0, none⟩) [(1, 1)]) :
    Calls Try.prog 11 #[.pointer (some ⟨Z, 0, none⟩), .int .i64 0, .int .i64 1, .slice (some ⟨S, 0, none⟩) 1 1] w fun e w' => ∃ g D', e = .returned (.tuple #[.int .i64 0, .int .i64 0]) ∧ SV b0 w' Z 2 1 A c [1, 2] 0 (upd1 (fun _ => none) 0 (some g)) (upd1 (fun _ _ => False) 0 D') ∧ Off (fun x => x = Z) w w' ∧ g.f = 0 ∧ g.F.tt = 1 ∧ g.F.ws = [(1, 1)] ∧ g.k = 0 := by
  have key := ask_yes h 0 1 (some ⟨S, 0, none⟩) 1 [(1, 1)] hs (fun e => by cases e) (by decide) (by decide) (by decide) (by decide) 0 (by decide) (fun _ => rfl) (fun j hj => by omega)
  refine Calls.mono key ?_
  rintro e w' (⟨h6, _⟩ | ⟨_, g, D', e1, e2, e3, e4, e5, e6, e7, _⟩)
  · cases h6
  · exact ⟨g, D', e1, e2, e3, e4, e5, e6, e7⟩
theorem all_s : allM 2 1 [1, 2] 2 = [(0, 1, 15), (1, 0, 15)] := by decide +kernel
def ls : List E := [(0, 1, 15), (1, 0, 15)]
def ts1 : AS := ⟨[0, 15], [-1, 0], [true, false], up (up (up (fun _ => false) 0 true) 0 false) 1 true, fun _ => false, 1, []⟩
def ts2 : AS := told [(1, 1)] ([0, 1], 15) ts1
theorem op_ts1 {v : Int} (h : AraLaw.Op 2 ts1 v) : v = 1 := by
  obtain ⟨⟨h0, h2⟩, h3⟩ := h
  have : v = 0 ∨ v = 1 := by omega
  rcases this with rfl | rfl
  · revert h3; decide
  · rfl
theorem nx_ts1 : NxA 2 (1, 1) [0, 0] ts1 1 := ⟨⟨⟨by decide, by decide⟩, by decide⟩, fun u hu => by rw [op_ts1 hu]; exact lt3_self _⟩
theorem exp_ts : expand ls [0, 0] 0 t0 = ts1 := rfl
theorem best_ts : BestA 2 1 ls ts1 ([0, 1], 15) := .inr ⟨by decide, [1, 0], Ch.more (by decide) (Ch.last rfl), rfl⟩
theorem run_s0 : Rn 2 1 ls [0, 0] [(1, 1)] 0 0 t0 := Rn.start (by
  show Stl 2 1 ls [0, 0] [(1, 1)] (init 2 [0, 0] 0) t0
  rw [init_t]
  exact Stl.wait (by decide) ⟨0, nx_t0, .inl rfl⟩)
theorem run_s2 : Rn 2 1 ls [0, 0] [(1, 1)] 0 1 ts2 := Rn.step run_s0 (by decide) nx_t0 (by
  rw [exp_ts]
  exact Stl.last rfl (.inr ⟨1, nx_ts1, by decide, by decide⟩) best_ts)
/-- on the small ground a request takes one step -/
theorem ov_s {k : Nat} : Ov 2 1 (allM 2 1 [1, 2] 2) [(1, 1)] 0 k ↔ k = 1 := by
  have hz : zs 2 = [0, 0] := rfl
  unfold Ov
  rw [all_s, hz]
  constructor
  · rintro ⟨s, h1, h2⟩
    exact (h1.one run_s2 h2 rfl).1
  · rintro rfl
    exact ⟨ts2, run_s2, rfl⟩
end Go.Proofs.Ytpoolpaagbeokaa.Serve

namespace Go.Proofs.Ytpoolpaagbeokaa.Serve
open Go.RowKit Go.Proofs.Ytpoolpaagbeokaa NetLaw BellLaw StarLaw AraLaw Go.Proofs.Ytpoolpaagbeokaa.Net Go.Proofs.Ytpoolpaagbeokaa.Std Go.Proofs.Ytpoolpaagbeokaa.Flow Go.Proofs.Ytpoolpaagbeokaa.Ara Go.Proofs.Ytpoolpaagbeokaa.GroundLaw
open Go.Proofs.Ytpoolpaagbeokaa.GridLaw hiding E
open Go.Proofs.Ytpoolpaagbeokaa.ServeLaw
set_option linter.unusedSimpArgs false
set_option linter.unusedVariables false
/-- requests that were taken, in their order -/
structure Reqs (σ : Nat → Option Slt) (k : Nat) (R : List E) : Prop where
  len : R.length = k
  som : ∀ m, m < k → ∃ g, σ m = some g ∧ R[m]? = some ((m : Int), (g.f : Int), (g.F.tt : Int))
  non : ∀ m, k ≤ m → σ m = none
theorem Reqs.start : Reqs (fun _ => none) 0 [] := ⟨rfl, fun m hm => by omega, fun _ _ => rfl⟩
theorem Reqs.add {σ : Nat → Option Slt} {k : Nat} {R : List E} (h : Reqs σ k R) (g : Slt) : Reqs (upd1 σ k (some g)) (k + 1) (R ++ [((k : Int), (g.f : Int), (g.F.tt : Int))]) := by
  refine ⟨by rw [List.length_append, h.len]; rfl, fun m hm => ?_, fun m hm => by rw [upd1_ne _ _ (by omega)]; exact h.non m (by omega)⟩
  by_cases e : m = k
  · subst e
    refine ⟨g, upd1_eq .., ?_⟩
    rw [List.getElem?_append_right (by rw [h.len]; exact Nat.le_refl _), h.len, Nat.sub_self]
    rfl
  · obtain ⟨g0, h1, h2⟩ := h.som m (by omega)
    refine ⟨g0, by rw [upd1_ne _ _ e]; exact h1, ?_⟩
    rw [List.getElem?_append_left (by rw [h.len]; omega)]
    exact h2
theorem Reqs.went {σ σ' : Nat → Option Slt} {k : Nat} {R : List E} (h : Reqs σ k R) (hw : Went σ σ') : Reqs σ' k R :=
  ⟨h.len, fun m hm => by
    obtain ⟨g, h1, h2⟩ := h.som m hm
    obtain ⟨Y, s, k', e⟩ := hw.get h1
    exact ⟨_, e, h2⟩, fun m hm => hw.none_ (h.non m hm)⟩
/-- on the small ground a frame takes the one step -/
theorem frame_s {g : Slt} (gf : g.f = 0) (gt : g.F.tt = 1) (gw : g.F.ws = [(1, 1)]) (gk : g.k = 0) {u t' : Nat} {c' : Nat → Nat} (hr : Run (Tk 2 (allM 2 1 [1, 2] 2) (upd1 (fun _ => none) 0 (some g))) 0 (cnt (upd1 (fun _ => none) 0 (some g))) u t' c') (hs : u < 9 → Stuck (Tk 2 (allM 2 1 [1, 2] 2) (upd1 (fun _ => none) 0 (some g))) c') : u = 1 := by
  have hT : ∀ i k, Tk 2 (allM 2 1 [1, 2] 2) (upd1 (fun _ => none) 0 (some g)) i k = true ↔ i = 0 ∧ k ≠ 1 := by
    intro i k
    by_cases e : i = 0
    · subst e
      rw [tk_some (upd1_eq ..), gt, gw, gf, ov_s]
      exact ⟨fun h => ⟨rfl, h⟩, fun h => h.2⟩
    · rw [tk_none (by rw [upd1_ne _ _ e])]
      exact ⟨fun h => (nomatch h), fun h => absurd h.1 e⟩
  have h0 : cnt (upd1 (fun _ => none) 0 (some g)) 0 = 0 := by unfold cnt; rw [upd1_eq]; exact gk
  have key : u ≤ 1 ∧ c' 0 = u := by
    clear hs
    induction hr with
    | zero => exact ⟨by decide, h0⟩
    | @step n t1 d c1 hr hf ih =>
      obtain ⟨h1, h2⟩ := ih
      obtain ⟨a1, a2⟩ := (hT _ _).1 hf.yes
      rw [a1] at a2 ⊢
      unfold bump
      rw [if_pos rfl]
      omega
  rcases Nat.eq_zero_or_pos u with e | e
  · have h1 := hs (by omega) 0 (by decide)
    have h2 := (hT 0 (c' 0)).2 ⟨rfl, by omega⟩
    rw [h1] at h2
    cases h2
  · omega
section
variable {b0 : Nat} {w w' : World} {Z : Nat} {W H : Int} {AC : Option Addr} {cC : Nat} {l : List Int} {turn : Nat} {σ : Nat → Option Slt} {D : Nat → Nat → Prop}
theorem SV.off (h : SV b0 w Z W H AC cC l turn σ D) {D2 : Nat → Prop} (ho : Off D2 w w') (hZ : ¬ D2 Z) (hC : ∀ x, ob AC = some x → ¬ D2 x) (hd : ∀ i, i < 6 → ∀ x, D i x → ¬ D2 x) : SV b0 w' Z W H AC cC l turn σ D :=
  ⟨blk_off h.z ho hZ, h.zl, own_off h.cells ho hC, h.good, h.tl, fun i hi g e => (h.slot i hi g e).off ho (hd i hi), h.sepD, h.out, fun i hi x hx => ⟨(h.dom i hi x hx).1, Nat.lt_of_lt_of_le (h.dom i hi x hx).2 ho.size⟩⟩
theorem Off.grown {row : Option Nat} (h : w.grownBy w' row) : Off (fun x => row = some x) w w' := ⟨h.os, h.tape, h.output, h.size, fun g hg hn => h.block g hg (fun e => hn e.symm)⟩
theorem SV.Zlt (h : SV b0 w Z W H AC cC l turn σ D) : Z < w.heap.size := h.zs.2.2.2.2.2
/-- a search that is over took no more than 512 steps -/
theorem SL.k512 {n : Nat} {m : List E} {Dk : Nat → Prop} {g : Slt} (h : SL b0 w n m Dk g) (ho : g.s.rds.length = g.F.ws.length) : g.k ≤ 512 := by
  obtain ⟨e1, e2, e3⟩ := h.net
  obtain ⟨⟨w1, w8⟩, _⟩ := wcode_ok h.wc
  have hld := h.sr.run.lastD w1 ho
  obtain ⟨V, _, _, hRI⟩ := h.sr.si h.fo h.po
  have hn : g.F.n ≤ 64 := by have := h.fo.gd.hi; omega
  have h1 := hRI.ld
  have h2 : g.s.rds.length ≤ 8 := by omega
  have h4 : (g.F.n : Int) * g.s.rds.length ≤ 64 * 8 := Int.mul_le_mul (by omega) (by omega) (by omega) (by omega)
  omega
/-- where none has a step to take, all are over -/
theorem SV.stuck_over {σ0 : Nat → Option Slt} (h : SV b0 w Z W H AC cC l turn σ D) (wt : Went σ0 σ) (hs : Stuck (Tk l.length (allM W H l l.length) σ0) (cnt σ)) : ∀ i, i < 6 → ∀ g, σ i = some g → g.s.rds.length = g.F.ws.length := fun i hi g hg => by
  have h1 := hs i hi
  rw [← wt.tk] at h1
  have h2 := h.tk hi hg
  rw [h1] at h2
  by_cases e : g.s.rds.length = g.F.ws.length
  · exact e
  · have := h2.2 e; cases this
/-- all requests over: no more than 3072 steps in all -/
theorem SV.sum_over (h : SV b0 w Z W H AC cC l turn σ D) (ho : ∀ i, i < 6 → ∀ g, σ i = some g → g.s.rds.length = g.F.ws.length) {T : Sch} {t0 n : Nat} {c : Nat → Nat} (hr : Run T t0 c n turn (cnt σ)) : n ≤ 3072 := hr.le (m := 512) (fun i hi => by
  unfold cnt
  cases hg : σ i with
  | none => exact Nat.zero_le _
  | some g => exact (h.slot i hi g hg).k512 (ho i hi g hg))
/-- a slot that is over was told a round -/
theorem SL.last_ {n : Nat} {m : List E} {Dk : Nat → Prop} {g : Slt} (h : SL b0 w n m Dk g) (ho : g.s.rds.length = g.F.ws.length) : ∃ R0 r, g.s.rds = R0 ++ [r] := by
  obtain ⟨⟨w1, _⟩, _⟩ := wcode_ok h.wc
  rcases List.eq_nil_or_concat g.s.rds with hr | ⟨R0, r, hr⟩
  · rw [hr] at ho; simp at ho; omega
  · exact ⟨R0, r, by rw [hr, List.concat_eq_append]⟩
end
end Go.Proofs.Ytpoolpaagbeokaa.Serve

namespace Go.Proofs.Ytpoolpaagbeokaa.Serve
open Go.RowKit Go.Proofs.Ytpoolpaagbeokaa NetLaw BellLaw StarLaw AraLaw Go.Proofs.Ytpoolpaagbeokaa.Net Go.Proofs.Ytpoolpaagbeokaa.Std Go.Proofs.Ytpoolpaagbeokaa.Flow Go.Proofs.Ytpoolpaagbeokaa.Ara Go.Proofs.Ytpoolpaagbeokaa.GroundLaw
open Go.Proofs.Ytpoolpaagbeokaa.GridLaw hiding E
open Go.Proofs.Ytpoolpaagbeokaa.ServeLaw
set_option linter.unusedSimpArgs false
set_option linter.unusedVariables false
section
variable {b0 : Nat} {w w' : World} {Z : Nat} {W H : Int} {AC : Option Addr} {cC : Nat} {l : List Int} {turn : Nat} {σ : Nat → Option Slt} {D : Nat → Nat → Prop}
set_option maxRecDepth 100000 in
set_option maxHeartbeats 8000000 in
/-- a request that was told something on other ground -/
theorem poll_stale (h : SV b0 w Z W H AC cC l turn σ D) {i : Nat} (hi : i < 6) {g : Slt} (hg : σ i = some g) (hr : g.s.rds = []) (hm : g.sm = true) :
    Calls Try.prog 14 #[.pointer (some ⟨Z, 0, none⟩), .int .i64 i] w fun e w' => AnsSays 3 g.T.rnd w e w' := by
  have hw0 : Below w.heap.size w (w.alloc (.cells #[.int .i64 0, .int .i64 0, .int .i64 0, .slice none 0 0, .int .i64 0, .int .i64 0] 45)) := (Below.refl _ _).alloc (Nat.le_refl _) _
  have hbox := heap_alloc_new w (.cells #[.int .i64 0, .int .i64 0, .int .i64 0, .slice none 0 0, .int .i64 0, .int .i64 0] 45)
  have h1 := h.keep hw0
  have SV0 := Lib.hid h1
  have HW0 := Lib.hid hw0
  have HB := Lib.hid hbox
  obtain ⟨a1, _⟩ := h.at_ hi
  rw [hg] at a1
  change w.cell? _ = some (.pointer (some ⟨g.Q, 0, none⟩)) at a1
  obtain ⟨_, _, _, _, _, zp⟩ := h.zs
  have zi : (i : Int) < 6 := by omega
  have hsl := h.slot i hi g hg
  have q0 := blk_cell hsl.z 0
  have zq := lt_of_block hsl.z
  simp only [List.getElem?_toArray, List.getElem?_cons_zero, List.getElem?_cons_succ] at q0
  obtain ⟨hp1, hp2⟩ := SI.paths (hsl.sr.si hsl.fo hsl.po)
  have krd := rounds_any ((h1.slot i hi g hg).sr.sm.am) hp1 (by have := hsl.fo.wl; omega)
  have KRD := Lib.hid krd
  have HG := Lib.hid hg
  have HR := Lib.hid hr
  have HRW := Lib.hid hp2
  have HM := Lib.hid hm
  clear hm h h1 hg hsl krd hr hp1 hp2 hw0 hbox
  go_enter Try.func14, Try.ntmps14
  go_wp2_with fail
  refine KRD.out.mono ?_
  rintro e w2 ⟨A, k, c, R, rfl, hRC, hb2⟩
  obtain ⟨hl1, hl2⟩ := hRC.len
  obtain rfl : k = 0 := by rw [← hl2, HR.out]; rfl
  have SV2 := SV0.out.keep hb2
  have hsl := SV2.slot i hi g HG.out
  have q9 := blk_cell hsl.z 9
  have q4 := blk_cell hsl.z 4
  have q5 := blk_cell hsl.z 5
  have q6 := blk_cell hsl.z 6
  have q7 := blk_cell hsl.z 7
  have q8 := blk_cell hsl.z 8
  have TOLD := Lib.hid hsl.told
  have HK64 := Lib.hid hsl.k64
  have zq2 := lt_of_block hsl.z
  simp only [List.getElem?_toArray, List.getElem?_cons_zero, List.getElem?_cons_succ, HM.out] at q9 q4 q5 q6 q7 q8
  have HW2 := Lib.hid (HW0.out.trans (hb2.mono HW0.out.size))
  have hB := blk_below HB.out hb2 (lt_of_block HB.out)
  have f0 := blk_free hB 0
  have f1 := blk_free hB 1
  have f2 := blk_free hB 2
  have f3 := blk_free hB 3
  have f4 := blk_free hB 4
  have f5 := blk_free hB 5
  have m0 := blk_cell hB 0
  have m1 := blk_cell hB 1
  have m2 := blk_cell hB 2
  have m3 := blk_cell hB 3
  have m4 := blk_cell hB 4
  have m5 := blk_cell hB 5
  have zR := lt_of_block hB
  simp only [List.getElem?_toArray, List.getElem?_cons_zero, List.getElem?_cons_succ] at m0 m1 m2 m3 m4 m5
  have HBR := Lib.hid hB
  clear SV2 hsl hB hRC hb2 SV0 HW0 a1 q0 zq zp KRD hl1 hl2
  go_upto_region 12 with fail
  obtain ⟨i0, hi0, hz0, hz1, hz2⟩ := info_parts infoIntO
  have h23 : Below w2.heap.size w2 (w2.alloc (.cells #[.int .i64 g.T.num, .int .i64 g.T.den, .slice g.T.A g.T.k g.T.c, .int .i64 g.T.cost, .int .i64 g.T.done] 43)) := (Below.refl _ _).alloc (Nat.le_refl _) _
  have hbn := heap_alloc_new w2 (.cells #[.int .i64 g.T.num, .int .i64 g.T.den, .slice g.T.A g.T.k g.T.c, .int .i64 g.T.cost, .int .i64 g.T.done] 43)
  have HT3 := TOLD.out.keep h23
  have hbR3 := blk_alloc HBR.out (.cells #[.int .i64 g.T.num, .int .i64 g.T.den, .slice g.T.A g.T.k g.T.c, .int .i64 g.T.cost, .int .i64 g.T.done] 43)
  have hXR : w.heap.size ≠ w2.heap.size := Nat.ne_of_lt (lt_of_block HBR.out)
  have HW3 := Lib.hid (HW2.out.trans (h23.mono HW2.out.size))
  have hb0k := HG.out
  have hkl := TOLD.out.sl.1
  have hfo : g.T.A = none → g.T.path.length = 0 ∧ g.T.c = 0 := by
    obtain ⟨A9, c9, e9, _, h9⟩ := TOLD.out.form
    injection e9 with e1 e2 e3
    subst e1 e3
    exact h9
  generalize w2.alloc (.cells #[.int .i64 g.T.num, .int .i64 g.T.den, .slice g.T.A g.T.k g.T.c, .int .i64 g.T.cost, .int .i64 g.T.done] 43) = w3 at hbn HT3 HW3 hbR3 ⊢
  have hle3 := HW3.out.size
  generalize hX : w2.heap.size = X at hbn hXR ⊢
  have x1 := blk_cell hbn 2
  have zX := lt_of_block hbn
  have hk6 := HK64.out
  simp only [List.getElem?_toArray, List.getElem?_cons_zero, List.getElem?_cons_succ] at x1
  have hsl3 := HT3.sl.2
  rw [hkl] at x1
  clear q4 q5 q6 q7 q8 q9 f0 f1 f2 f3 f4 f5 m0 m1 m2 m3 m4 m5 zR
  have HX1 := Lib.hid hX
  clear hX
  go_upto_region 13 with (at_builtin; go_must (refine wpList_pushAll _ rfl (.const (.slice none 0 0)) (.tmp 66) _ rfl w3.heap.size 3 i0 (.int .i64 0) 1 8 ci Try.underlying22 hi0 hz0 hz1 hz2 rfl (by decide) _ [] 0 rfl rfl Own.nil_ w3.heap.size g.T.A g.T.path.length g.T.c g.T.path rfl rfl hfo (hsl3.more (by omega)) one_ci (by omega) (by omega) (Nat.le_refl _) ?_; intro A5 c5 w5 hown5 hgrow5 hat5; have hb35 : Below w3.heap.size w3 w5 := (Below.refl _ _).grown hgrow5 (Nat.le_refl _) (fun k hk => by cases hk); have hbn5 := blk_below hbn hb35 zX; have y2 := blk_cell hbn5 2; have yf := blk_free hbn5 2; have zX5 := lt_of_block hbn5))
  simp only [Nat.zero_add, List.nil_append] at hown5
  have hbR5 := blk_below hbR3 hb35 (lt_of_block hbR3)
  have hbn6 := blk_set hbn5 2 (.slice A5 g.T.path.length c5)
  have hbR6 := blk_far hbR5 (p := ⟨X, 2, none⟩) hXR (.slice A5 g.T.path.length c5)
  have own6 := hown5.setCell (p := ⟨X, 2, none⟩) (hown5.ne_ hbn5 (by decide)) (.slice A5 g.T.path.length c5)
  have hb36 : w.heap.size ≤ w3.heap.size := hle3
  have hXw : w.heap.size ≤ X := by rw [← HX1.out]; exact HW2.out.size
  have HW6 := Lib.hid ((HW3.out.trans (hb35.mono HW3.out.size)).setCell (p := ⟨X, 2, none⟩) hXw (.slice A5 g.T.path.length c5))
  clear hbR5 hbR3 hbn5 hbn y2 yf zX5 hown5 hgrow5 hat5 hb35 hsl3 HT3 HW3 x1 zX
  generalize w5.setCell ⟨X, 2, none⟩ (.slice A5 g.T.path.length c5) = w6 at hbn6 hbR6 own6 HW6 ⊢
  have n0 := blk_cell hbn6 0
  have n1 := blk_cell hbn6 1
  have n2 := blk_cell hbn6 2
  have n3 := blk_cell hbn6 3
  have n4 := blk_cell hbn6 4
  have zX6 := lt_of_block hbn6
  have f0 := blk_free hbR6 0
  have f1 := blk_free hbR6 1
  have f2 := blk_free hbR6 2
  have f3 := blk_free hbR6 3
  have f4 := blk_free hbR6 4
  have f5 := blk_free hbR6 5
  have m0 := blk_cell hbR6 0
  have m1 := blk_cell hbR6 1
  have m2 := blk_cell hbR6 2
  have m3 := blk_cell hbR6 3
  have m4 := blk_cell hbR6 4
  have m5 := blk_cell hbR6 5
  have zR := lt_of_block hbR6
  simp only [List.getElem?_toArray, List.getElem?_cons_zero, List.getElem?_cons_succ, List.setIfInBounds_toArray, List.set_cons_zero, List.set_cons_succ] at n0 n1 n2 n3 n4 m0 m1 m2 m3 m4 m5
  have ne1 := own6.ne_ hbR6 (by decide)
  have OWN6 := Lib.hid (own6.mono hb36)
  have NE1 := Lib.hid ne1
  clear hbn6 hbR6 own6 ne1 HBR
  go_wp2
  refine bodyPost_ret (v := .tuple #[.agg #[.int .i64 3, .int .i64 g.T.num, .int .i64 g.T.den, .slice A5 g.T.path.length c5, .int .i64 g.T.cost, .int .i64 g.T.done], .int .i64 0]) (by simp [results, Try.results14, go_sem, m0, m1, m2, m3, m4, m5, f0, f1, f2, f3, f4, f5, n0, n1, n2, n3, n4, zR, zX6]) rfl ?_
  refine ⟨A5, c5, rfl, ?_, ?_⟩
  · exact (((((OWN6.out.setCell NE1.out _).setCell NE1.out _).setCell NE1.out _).setCell NE1.out _).setCell NE1.out _).setCell NE1.out _
  · exact (((((HW6.out.setCell (by dsimp only; omega) _).setCell (by dsimp only; omega) _).setCell (by dsimp only; omega) _).setCell (by dsimp only; omega) _).setCell (by dsimp only; omega) _).setCell (by dsimp only; omega) _
end
end Go.Proofs.Ytpoolpaagbeokaa.Serve

namespace Go.Proofs.Ytpoolpaagbeokaa.Serve
open Go.RowKit Go.Proofs.Ytpoolpaagbeokaa NetLaw BellLaw StarLaw AraLaw Go.Proofs.Ytpoolpaagbeokaa.Net Go.Proofs.Ytpoolpaagbeokaa.Std Go.Proofs.Ytpoolpaagbeokaa.Flow Go.Proofs.Ytpoolpaagbeokaa.Ara Go.Proofs.Ytpoolpaagbeokaa.GroundLaw
open Go.Proofs.Ytpoolpaagbeokaa.GridLaw hiding E
open Go.Proofs.Ytpoolpaagbeokaa.ServeLaw
set_option linter.unusedSimpArgs false
set_option linter.unusedVariables false
/-- a service's blocks -/
def SB (Z : Nat) (AC : Option Addr) (D : Nat → Nat → Prop) : Nat → Prop := fun x => x = Z ∨ ob AC = some x ∨ DS D x
section
variable {b0 : Nat} {w w' : World} {Z : Nat} {W H : Int} {AC : Option Addr} {cC : Nat} {l : List Int} {turn : Nat} {σ : Nat → Option Slt} {D : Nat → Nat → Prop}
theorem SV.sb (h : SV b0 w Z W H AC cC l turn σ D) {x : Nat} (hx : SB Z AC D x) : b0 ≤ x ∧ x < w.heap.size := by
  rcases hx with e | e | ⟨i, hi, hd⟩
  · rw [e]; exact ⟨h.zl, h.Zlt⟩
  · exact h.cells.base_ x ((ob_ ..).trans e)
  · exact h.dom i hi x hd
end
/-- two services on one ground -/
structure Duo (b b' : Nat) (w : World) (W H : Int) (l : List Int) (Z : Nat) (A : Option Addr) (c t : Nat) (σ : Nat → Option Slt) (D : Nat → Nat → Prop) (Z' : Nat) (A' : Option Addr) (c' t' : Nat) (σ' : Nat → Option Slt) (D' : Nat → Nat → Prop) : Prop where
  one : SV b w Z W H A c l t σ D
  two : SV b' w Z' W H A' c' l t' σ' D'
  ap : ∀ x, SB Z A D x → ¬ SB Z' A' D' x
section
variable {b b' : Nat} {w w1 : World} {W H : Int} {l : List Int} {Z : Nat} {A : Option Addr} {c t : Nat} {σ : Nat → Option Slt} {D : Nat → Nat → Prop} {Z' : Nat} {A' : Option Addr} {c' t' : Nat} {σ' : Nat → Option Slt} {D' : Nat → Nat → Prop}
theorem Duo.swap (h : Duo b b' w W H l Z A c t σ D Z' A' c' t' σ' D') : Duo b' b w W H l Z' A' c' t' σ' D' Z A c t σ D := ⟨h.two, h.one, fun x hx hx' => h.ap x hx' hx⟩
theorem Duo.keep (h : Duo b b' w W H l Z A c t σ D Z' A' c' t' σ' D') (hb : Below w.heap.size w w1) : Duo b b' w1 W H l Z A c t σ D Z' A' c' t' σ' D' := ⟨h.one.keep hb, h.two.keep hb, h.ap⟩
/-- the one goes on -/
theorem Duo.on (h : Duo b b' w W H l Z A c t σ D Z' A' c' t' σ' D') {t1 : Nat} {σ1 : Nat → Option Slt} {D1 : Nat → Nat → Prop} (h1 : SV b w1 Z W H A c l t1 σ1 D1) (ho : Off (SB Z A D) w w1) (hn : ∀ x, DS D1 x → DS D x ∨ w.heap.size ≤ x) : Duo b b' w1 W H l Z A c t1 σ1 D1 Z' A' c' t' σ' D' :=
  ⟨h1, h.two.off ho (fun hx => h.ap _ hx (.inl rfl)) (fun x e hx => h.ap x hx (.inr (.inl e))) (fun i hi x hd hx => h.ap x hx (.inr (.inr ⟨i, hi, hd⟩))), fun x hx hx' => by
    have hlt := (h.two.sb hx').2
    rcases hx with e | e | hd
    · exact h.ap x (.inl e) hx'
    · exact h.ap x (.inr (.inl e)) hx'
    · rcases hn x hd with e | e
      · exact h.ap x (.inr (.inr e)) hx'
      · omega⟩
end
theorem ds_upd {D : Nat → Nat → Prop} {k : Nat} {D' : Nat → Prop} {m : Nat} (hd : ∀ x, D' x → m ≤ x) : ∀ x, DS (upd1 D k D') x → DS D x ∨ m ≤ x := by
  rintro x ⟨i, hi, h⟩
  by_cases e : i = k
  · subst e; rw [upd1_eq] at h; exact .inr (hd x h)
  · rw [upd1_ne _ _ e] at h; exact .inl ⟨i, hi, h⟩
/-- the same requests, none begun -/
structure Lk (σ σ' : Nat → Option Slt) (k : Nat) : Prop where
  som : ∀ i, i < k → ∃ g g', σ i = some g ∧ σ' i = some g' ∧ g'.f = g.f ∧ g'.F.tt = g.F.tt ∧ g'.F.ws = g.F.ws ∧ g.k = 0 ∧ g'.k = 0 ∧ g.sm = false ∧ g'.sm = false
  non : ∀ i, k ≤ i → σ i = none ∧ σ' i = none
theorem Lk.start : Lk (fun _ => none) (fun _ => none) 0 := ⟨fun i hi => by omega, fun _ _ => ⟨rfl, rfl⟩⟩
theorem Lk.add {σ σ' : Nat → Option Slt} {k : Nat} (h : Lk σ σ' k) {g g' : Slt} (h1 : g'.f = g.f) (h2 : g'.F.tt = g.F.tt) (h3 : g'.F.ws = g.F.ws) (h4 : g.k = 0) (h5 : g'.k = 0) (h6 : g.sm = false) (h7 : g'.sm = false) : Lk (upd1 σ k (some g)) (upd1 σ' k (some g')) (k + 1) := by
  refine ⟨fun i hi => ?_, fun i hi => ?_⟩
  · by_cases e : i = k
    · subst e; exact ⟨g, g', upd1_eq .., upd1_eq .., h1, h2, h3, h4, h5, h6, h7⟩
    · rw [upd1_ne _ _ e, upd1_ne _ _ e]; exact h.som i (by omega)
  · rw [upd1_ne _ _ (by omega), upd1_ne _ _ (by omega)]; exact h.non i (by omega)
theorem Lk.cnt_ {σ σ' : Nat → Option Slt} {k : Nat} (h : Lk σ σ' k) : cnt σ' = cnt σ := by
  funext i
  unfold cnt
  rcases Nat.lt_or_ge i k with hi | hi
  · obtain ⟨g, g', e, e', _, _, _, k1, k2, _⟩ := h.som i hi
    rw [e, e']
    exact k2.trans k1.symm
  · obtain ⟨e, e'⟩ := h.non i hi
    rw [e, e']
theorem Lk.tk_ {σ σ' : Nat → Option Slt} {k : Nat} (h : Lk σ σ' k) (n : Nat) (m : List E) : Tk n m σ' = Tk n m σ := by
  funext i j
  rcases Nat.lt_or_ge i k with hi | hi
  · obtain ⟨g, g', e, e', h1, h2, h3, _⟩ := h.som i hi
    have a := tk_some (n := n) (l := m) (k := j) e
    have a' := tk_some (n := n) (l := m) (k := j) e'
    rw [h1, h2, h3] at a'
    exact Bool.eq_iff_iff.2 (a'.trans a.symm)
  · obtain ⟨e, e'⟩ := h.non i hi
    rw [tk_none e, tk_none e']
/-- behind as many steps each request stands where its like does -/
theorem same_state {b b' : Nat} {w w' : World} {W H : Int} {l : List Int} {Z : Nat} {A : Option Addr} {c t : Nat} {σ σ1 : Nat → Option Slt} {D : Nat → Nat → Prop} {Z' : Nat} {A' : Option Addr} {c' t' : Nat} {σ' σ1' : Nat → Option Slt} {D' : Nat → Nat → Prop} {k : Nat} (h : Lk σ σ' k) (s : SV b w Z W H A c l t σ1 D) (s' : SV b' w' Z' W H A' c' l t' σ1' D') (hw : Went σ σ1) (hw' : Went σ' σ1') (hc : cnt σ1 = cnt σ1') {i : Nat} (hi : i < 6) :
    (σ1 i = none ∧ σ1' i = none) ∨ ∃ g g', σ1 i = some g ∧ σ1' i = some g' ∧ g'.s = g.s ∧ g'.F.ws.length = g.F.ws.length ∧ g.sm = false ∧ g'.sm = false := by
  rcases Nat.lt_or_ge i k with hk | hk
  · obtain ⟨g, g', e, e', h1, h2, h3, _, _, h6, h7⟩ := h.som i hk
    obtain ⟨Y, s1, k1, a⟩ := hw.get e
    obtain ⟨Y', s1', k1', a'⟩ := hw'.get e'
    refine .inr ⟨_, _, a, a', ?_, congrArg List.length h3, h6, h7⟩
    have r := (s.slot i hi _ a).run_
    have r' := (s'.slot i hi _ a').run_
    have hkk : k1 = k1' := by
      have := congrFun hc i
      unfold cnt at this
      rw [a, a'] at this
      exact this
    dsimp only at r r'
    rw [h1, h2, h3, ← hkk] at r'
    exact r'.det r
  · obtain ⟨e, e'⟩ := h.non i hk
    exact .inl ⟨hw.none_ e, hw'.none_ e'⟩
set_option maxRecDepth 100000 in
set_option maxHeartbeats 8000000 in
/-- two answers that are the same -/
theorem same_answer (st : Int) (r : Rnd) (A : Option Addr) (c : Nat) (A' : Option Addr) (c' : Nat) (w : World) (h : Sl w w.heap.size 1 ci A r.path) (h' : Sl w w.heap.size 1 ci A' r.path) (hk : r.path.length ≤ 1000000) :
    Calls Try.prog 15 #[.agg #[.int .i64 st, .int .i64 r.num, .int .i64 r.den, .slice A r.path.length c, .int .i64 r.cost, .int .i64 r.done], .agg #[.int .i64 st, .int .i64 r.num, .int .i64 r.den, .slice A' r.path.length c', .int .i64 r.cost, .int .i64 r.done]] w fun e w' => e = .returned (.bool true) ∧ Below w.heap.size w w' := by
  obtain ⟨w0, hw0⟩ : ∃ w0, w0 = (w.alloc (.cells #[.int .i64 st, .int .i64 r.num, .int .i64 r.den, .slice A r.path.length c, .int .i64 r.cost, .int .i64 r.done] 45)).alloc (.cells #[.int .i64 st, .int .i64 r.num, .int .i64 r.den, .slice A' r.path.length c', .int .i64 r.cost, .int .i64 r.done] 45) := ⟨_, rfl⟩
  have hb0 : Below w.heap.size w w0 := by rw [hw0]; exact ((Below.refl _ _).alloc (Nat.le_refl _) _).alloc (by simp) _
  have key := same_round ⟨r.num, r.den, A, r.path.length, c, r.cost, r.done, r.path⟩ ⟨r.num, r.den, A', r.path.length, c', r.cost, r.done, r.path⟩ w0 ((h.keep hb0 (Nat.le_refl _)).more hb0.size) ((h'.keep hb0 (Nat.le_refl _)).more hb0.size) rfl rfl hk rfl
  unfold rv at key
  dsimp only at key
  have KEY := Lib.hid key
  have HB0 := Lib.hid hb0
  clear key h h' hb0
  generalize r.path.length = m at *
  go_enter Try.func15, Try.ntmps15
  go_wp2_with fail
  rw [← hw0]
  refine KEY.out.mono ?_
  rintro e w1 ⟨rfl, hb1⟩
  have HB1 := Lib.hid (HB0.out.trans (hb1.mono HB0.out.size))
  clear hb1 HB0 KEY hw0
  go_wp2
  go_ret
  exact ⟨rfl, HB1.out⟩
end Go.Proofs.Ytpoolpaagbeokaa.Serve
