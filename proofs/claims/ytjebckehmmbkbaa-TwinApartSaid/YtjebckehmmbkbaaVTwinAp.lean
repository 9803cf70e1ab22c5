/- The walk of twin.Apart, for two right walks of a net: do they share no edge? -/
import Derived.Test.YtjebckehmmbkbaaVPairMap
import Derived.Test.YtjebckehmmbkbaaVSinkN
import Derived.Test.YtjebckehmmbkbaaVWalkCost
import Derived.Test.YtjebckehmmbkbaaVTwinPath
import Derived.Test.YtjebckehmmbkbaaVBellSh
import Derived.Deep.CutRange
import Derived.Deep.LoopGhost
import Derived.Deep.RegionLaw
import Derived.IntWalk
namespace Go.Proofs.Ytjebckehmmbkbaa.TwinA
open Go.RowKit Go.Proofs.Ytjebckehmmbkbaa NetLaw BellLaw FlowLaw WalkLaw TwinLaw Go.Proofs.Ytjebckehmmbkbaa.Net Go.Proofs.Ytjebckehmmbkbaa.Std Go.Proofs.Ytjebckehmmbkbaa.PairMap
open Go.ChangeMaps (setBlock heap_setBlock_same heap_setBlock_other)
set_option linter.unusedSimpArgs false
set_option linter.unusedVariables false
/-- do two walks share no edge -/
def aptB (l : List E) (p q : List Int) : Bool := (prs p ++ prs q).all fun r => decide ((prs p ++ prs q).count r ≤ cnE l r.1 r.2)
theorem apt_iff {l : List E} {p q : List Int} : aptB l p q = true ↔ Apt l p q := by
  unfold aptB
  rw [List.all_eq_true]
  constructor
  · intro h a b
    by_cases hm : (a, b) ∈ prs p ++ prs q
    · have := h _ hm
      simpa using this
    · rw [List.count_eq_zero.2 hm]
      exact Nat.zero_le _
  · intro h r hr
    have := h r.1 r.2
    simpa using this
/-- the steps of the first k of two walks -/
def Ls (p q : List Int) (k : Nat) : List (Int × Int) := if k = 0 then [] else if k = 1 then prs p else prs p ++ prs q
theorem prs_small (p : List Int) (h : p.length ≤ 100) : (prs p).length ≤ 99 := by rw [prs_len]; omega
theorem lt_of_map {w : World} {b : Nat} {o : Obj} (h : w.heap[b]? = some o) : b < w.heap.size := (Array.getElem?_eq_some_iff.1 h).1
theorem born_inj {es : Array MapEntry} (h : (es.toList.map (·.born)).Nodup) {a b : MapEntry} (ha : a ∈ es.toList) (hb : b ∈ es.toList) (hab : a.born = b.born) : a = b := by
  obtain ⟨i, hi, rfl⟩ := List.getElem_of_mem ha
  obtain ⟨j, hj, rfl⟩ := List.getElem_of_mem hb
  have h2 : (es.toList.map (·.born))[i]'(by simpa using hi) = (es.toList.map (·.born))[j]'(by simpa using hj) := by simpa using hab
  have := (List.getElem_inj h).1 h2
  subst this
  rfl
/-- the edges' ends -/
def ks (l : List E) : List (Int × Int) := l.map fun e => (e.1, e.2.1)
/-- one of the two walks, in memory -/
structure Sel (w3 : World) (bm bs : Nat) (p q : List Int) (k : Nat) (br off nx cx : Nat) (r : List Int) : Prop where
  cell : ∀ W : World, Below bm w3 W → (∀ i, W.cell? ⟨bs, i, none⟩ = w3.cell? ⟨bs, i, none⟩) → W.cell? ⟨bs, k, none⟩ = some (.slice (some ⟨br, off, none⟩) nx cx)
  lt : br < bm
  at_ : ∀ W : World, Below bm w3 W → ∀ j, j < nx → W.cell? ⟨br, off + j, none⟩ = some (.int .i64 (r.getD j 0))
  len : r.length = nx
  one : 1 ≤ nx
  hi : nx ≤ 100
  rng : ∀ v ∈ r, 0 ≤ v ∧ v ≤ 64
  next : Ls p q (k + 1) = Ls p q k ++ prs r
  small : (Ls p q k).length ≤ 99
theorem sel_of {w2 w3 : World} {A : Option Addr} {p : List Int} {bm bs n k cx : Nat} {P Q : List Int} {N x : Int} {l : List E} (hs : Sl w2 bm 1 ci A p) (hn : p.length = n) (hb : Below bm w2 w3) (hco : cost N l p = (x, 0)) (hc : w3.cell? ⟨bs, k, none⟩ = some (.slice A n cx)) (hnx : Ls P Q (k + 1) = Ls P Q k ++ prs p) (hsm : (Ls P Q k).length ≤ 99) :
    ∃ br off, A = some ⟨br, off, none⟩ ∧ Sel w3 bm bs P Q k br off n cx p := by
  have h2 : (cost N l p).2 = 0 := by rw [hco]
  obtain ⟨c1, c2, c3, c4, _⟩ := cost_zero.1 h2
  have hg := (chk_zero.1 c1).hi
  obtain ⟨br, off, rfl, hlt, _⟩ := hs (by omega)
  refine ⟨br, off, rfl, fun W hW hcl => (hcl k).trans hc, hlt, fun W hW j hj => ?_, hn, by omega, by omega, fun v hv => ?_, hnx, hsm⟩
  · obtain ⟨b', o', e, _, h⟩ := (hs.keep (hb.trans hW) (Nat.le_refl _)) (by omega)
    injection e with e
    injection e with e1 e2
    subst e1 e2
    have := h j (by omega) 0 (by decide)
    rw [Nat.mul_one, Nat.add_zero] at this
    rw [this]
    simp [ci, hn, hj]
  · rw [List.any_eq_false] at c4
    have := c4 v hv
    simp [outB] at this
    omega
set_option maxRecDepth 100000 in
set_option maxHeartbeats 16000000 in
theorem apart_yes (N : Int) (A : Option Addr) (c : Nat) (l : List E) (Aa Ab : Option Addr) (ca cb na nb : Nat) (p q : List Int) (x1 y1 : Int) (w : World) (hl : Sl w w.heap.size 3 ce A l) (hp : Sl w w.heap.size 1 ci Aa p) (hq : Sl w w.heap.size 1 ci Ab q) (hna : p.length = na) (hnb : q.length = nb) (hcp : cost N l p = (x1, 0)) (hcq : cost N l q = (y1, 0)) :
    Calls Try.prog 4 #[.agg #[.int .i64 N, .slice A l.length c], .slice Aa na ca, .slice Ab nb cb] w fun e w' => e = .returned (.tuple #[.bool (aptB l p q), .int .i64 0]) ∧ Below w.heap.size w w' := by
  have hgood := chk_zero.1 (cost_zero.1 (show (cost N l p).2 = 0 by rw [hcp])).1
  have h6 := hgood.len
  have hN := hgood.hi
  have p100 := (cost_zero.1 (show (cost N l p).2 = 0 by rw [hcp])).2.2.1
  have q100 := (cost_zero.1 (show (cost N l q).2 = 0 by rw [hcq])).2.2.1
  have hrg : ∀ e ∈ l, (0 ≤ e.1 ∧ e.1 ≤ 64) ∧ 0 ≤ e.2.1 ∧ e.2.1 ≤ 64 := fun e he => by have := hgood.ends e he; omega
  have kp := fun W h1 h2 => Go.Proofs.Ytjebckehmmbkbaa.Walk.cost_any N A c l Aa ca p W h1 h2 (by omega) (by omega)
  have kq := fun W h1 h2 => Go.Proofs.Ytjebckehmmbkbaa.Walk.cost_any N A c l Ab cb q W h1 h2 (by omega) (by omega)
  rw [hcp, hna] at kp
  rw [hcq, hnb] at kq
  have hw0 : Below w.heap.size w (w.alloc (.cells #[.int .i64 N, .slice A l.length c] 24)) := (Below.refl _ _).alloc (Nat.le_refl _) _
  have HK : Hid (∀ W, Below (w.heap.size + 1) (w.alloc (.cells #[.int .i64 N, .slice A l.length c] 24)) W → W.cell? ⟨w.heap.size, 0, none⟩ = some (.int .i64 N) ∧ W.cell? ⟨w.heap.size, 1, none⟩ = some (.slice A l.length c) ∧ w.heap.size + 1 ≤ W.heap.size ∧ Sl W W.heap.size 3 ce A l ∧ Sl W W.heap.size 1 ci Aa p ∧ Sl W W.heap.size 1 ci Ab q ∧ Below w.heap.size w W) := Lib.hid (fun W hW => by
    obtain ⟨cc, _⟩ := keepAt hW (Nat.lt_succ_self _)
    have q0 := cc 0
    have q1 := cc 1
    simp at q0 q1
    have H := hw0.trans (hW.mono (Nat.le_succ _))
    have hz := hW.size
    simp at hz
    exact ⟨q0, q1, hz, (hl.keep H (Nat.le_refl _)).more H.size, (hp.keep H (Nat.le_refl _)).more H.size, (hq.keep H (Nat.le_refl _)).more H.size, H⟩)
  have HB0 := Lib.hid (Below.refl (w.heap.size + 1) (w.alloc (.cells #[.int .i64 N, .slice A l.length c] 24)))
  have KP := Lib.hid kp
  have KQ := Lib.hid kq
  have HCP := Lib.hid hcp
  have HCQ := Lib.hid hcq
  have HNA := Lib.hid hna
  have HNB := Lib.hid hnb
  have HRG := Lib.hid hrg
  have hmm := @run_makeMap Try.prog
  clear kp kq hcp hcq hna hnb hl hp hq hgood hrg hw0
  go_enter Try.func4, Try.ntmps4
  obtain ⟨q0, q1, Z0, sl, sp, sq, _⟩ := HK.out _ HB0.out
  go_wp2_with fail
  refine (KP.out _ sl sp).mono ?_
  rintro e w1 ⟨rfl, hb1⟩
  have B1 := HB0.out.trans (hb1.mono (by simp))
  clear q0 q1 Z0 sl sp sq hb1
  obtain ⟨q0, q1, Z1, sl, sp, sq, _⟩ := HK.out _ B1
  go_wp2_with fail
  refine (KQ.out _ sl sq).mono ?_
  rintro e w2 ⟨rfl, hb2⟩
  have B2 := B1.trans (hb2.mono Z1)
  clear q0 q1 Z1 sl sp sq hb2 B1 KP KQ
  obtain ⟨q0, q1, Z2, sl, sp, sq, H2⟩ := HK.out _ B2
  go_wp2
  have cm0 : CMap ((w2.alloc (.map #[] 0)).alloc (.cells #[.slice Aa na ca, .slice Ab nb cb] 29)) w2.heap.size [] := (CMap.made w2).keep ((Below.refl _ _).alloc (Nat.le_refl _) _)
  have b23 : Below w2.heap.size w2 ((w2.alloc (.map #[] 0)).alloc (.cells #[.slice Aa na ca, .slice Ab nb cb] 29)) := ((Below.refl _ _).alloc (Nat.le_refl _) _).alloc (by simp) _
  have bs0 : ((w2.alloc (.map #[] 0)).alloc (.cells #[.slice Aa na ca, .slice Ab nb cb] 29)).heap[w2.heap.size + 1]? = some (.cells #[.slice Aa na ca, .slice Ab nb cb] 29 (0, 0)) := by
    have h := heap_alloc_new (w2.alloc (.map #[] 0)) (.cells #[.slice Aa na ca, .slice Ab nb cb] 29)
    simpa using h
  have hz3 : ((w2.alloc (.map #[] 0)).alloc (.cells #[.slice Aa na ca, .slice Ab nb cb] 29)).heap.size = w2.heap.size + 1 + 1 := by simp
  obtain ⟨bm, hbm⟩ : ∃ bm, bm = w2.heap.size := ⟨_, rfl⟩
  rw [← hbm] at cm0 b23 bs0 hz3 ⊢
  obtain ⟨bs, hbs⟩ : ∃ bs, bs = bm + 1 := ⟨_, rfl⟩
  rw [← hbs] at bs0 ⊢
  have hbsm : bs ≠ bm := by omega
  have hbw : w.heap.size < bm := by omega
  rw [← hbm] at sl sp sq
  have SLB := Lib.hid (fun W (hW : Below bm w2 W) => sl.keep hW (Nat.le_refl _))
  clear q0 q1 Z2 hbm hbs
  generalize (w2.alloc (.map #[] 0)).alloc (.cells #[.slice Aa na ca, .slice Ab nb cb] 29) = w3 at cm0 b23 bs0 hz3 ⊢
  have c0 := blk_cell bs0 0
  have c1 := blk_cell bs0 1
  simp only [List.getElem?_toArray, List.getElem?_cons_zero, List.getElem?_cons_succ] at c0 c1
  obtain ⟨ba, oa, rfl, sela⟩ := sel_of (k := 0) (P := p) (Q := q) sp HNA.out b23 HCP.out c0 (by unfold Ls; simp) (by unfold Ls; simp)
  obtain ⟨bb, ob, rfl, selb⟩ := sel_of (k := 1) (P := p) (Q := q) sq HNB.out b23 HCQ.out c1 (by unfold Ls; simp) (by unfold Ls; simpa using prs_small p p100)
  have SEL : Hid (∀ k, k < 2 → ∃ br off nx cx r, Sel w3 bm bs p q k br off nx cx r) := Lib.hid (fun k hk => by
    match k, hk with
    | 0, _ => exact ⟨_, _, _, _, _, sela⟩
    | 1, _ => exact ⟨_, _, _, _, _, selb⟩)
  have HBX : Hid (∀ W, Below bm w3 W → W.cell? ⟨w.heap.size, 1, none⟩ = some (.slice A l.length c) ∧ bm + 2 ≤ W.heap.size ∧ Sl W bm 3 ce A l ∧ Below w.heap.size w W) := Lib.hid (fun W hW => by
    have h23 := b23.trans hW
    have hz := hW.size
    have hn := B2.trans (h23.mono (by omega))
    obtain ⟨_, g1, _, _, _, _, g2⟩ := HK.out _ hn
    exact ⟨g1, by omega, SLB.out W h23, g2⟩)
  have CM0 := Lib.hid cm0
  have BS0 := Lib.hid bs0
  have BR0 := Lib.hid (Below.refl bm w3)
  clear sl sp sq SLB c0 c1 sela selb cm0 bs0 b23 B2 H2 HK HB0 HCP HCQ HNA HNB hz3
  go_loopw [44] (fun s wr => ∃ k : Nat, k ≤ 2 ∧ s = .int .i64 k ∧ Hid (CMap wr bm (Ls p q k)) ∧ Hid (wr.heap[bs]? = some (.cells #[.slice (some ⟨ba, oa, none⟩) na ca, .slice (some ⟨bb, ob, none⟩) nb cb] 29 (0, 0))) ∧ Hid (Below bm w3 wr)) (fun s _ => 2 - (intOf s).toNat)
  case atStart => exact ⟨0, by omega, rfl, by unfold Ls; exact CM0, BS0, BR0⟩
  case round =>
    obtain ⟨k, hk, rfl, CMO, BSO, BO⟩ := hrel
    clear CM0 BR0
    by_cases hk2 : k < 2
    · obtain ⟨br, off, nx, cx', r, hsel⟩ := SEL.out k hk2
      have hcell := hsel.cell wr BO.out (fun i => by simp only [World.cell?, BSO.out, BS0.out])
      have hbrm : br ≠ bm := Nat.ne_of_lt hsel.lt
      have zbs := lt_of_block BSO.out
      have hk3 : (k : Int) < 2 := by omega
      have hnx1 := hsel.one
      have hnx2 := hsel.hi
      have HSEL := Lib.hid hsel
      clear hsel
      go_wp2
      go_loopw [15] (fun s wq => ∃ j : Nat, j + 1 ≤ nx ∧ s = .int .i64 ((j : Int) + 1) ∧ Hid (CMap wq bm (Ls p q k ++ (prs r).take j)) ∧ Hid (wq.heap[bs]? = some (.cells #[.slice (some ⟨ba, oa, none⟩) na ca, .slice (some ⟨bb, ob, none⟩) nb cb] 29 (0, 0))) ∧ Hid (Below bm w3 wq)) (fun s _ => nx - (intOf s).toNat)
      case atStart => exact ⟨0, by omega, by simp, by simpa using CMO, BSO, BO⟩
      case round =>
        obtain ⟨j, hj, rfl, CMI, BSI, BI⟩ := hrel
        clear CMO BSO BO hcell zbs
        by_cases hj2 : j + 1 < nx
        · have cx := HSEL.out.at_ wr BI.out j (by omega)
          have cy := HSEL.out.at_ wr BI.out (j + 1) hj2
          have hlen := HSEL.out.len
          have hx : r.getD j 0 = r[j]'(by omega) := by simp [show j < r.length by omega]
          have hy : r.getD (j + 1) 0 = r[j + 1]'(by omega) := by simp [show j + 1 < r.length by omega]
          have hrx := HSEL.out.rng (r[j]'(by omega)) (List.getElem_mem _)
          have hry := HSEL.out.rng (r[j + 1]'(by omega)) (List.getElem_mem _)
          have hprs : (prs r).take (j + 1) = (prs r).take j ++ [(r[j]'(by omega), r[j + 1]'(by omega))] := by
            have hjl : j < (prs r).length := by rw [prs_len]; omega
            rw [List.take_succ_eq_append_getElem hjl]
            have := prs_get (p := r) (k := j) (by omega)
            rw [List.getElem?_eq_getElem hjl] at this
            injection this with this
            rw [this]
          rw [hx] at cx
          rw [hy] at cy
          have hsm : (Ls p q k ++ (prs r).take j).length ≤ 300 := by
            rw [List.length_append, List.length_take, prs_len]
            have := HSEL.out.small
            omega
          have HPRS : Hid (Ls p q k ++ (prs r).take (j + 1) = (Ls p q k ++ (prs r).take j) ++ [(r[j]'(by omega), r[j + 1]'(by omega))]) := Lib.hid (by rw [hprs, List.append_assoc])
          clear hprs hx hy
          generalize r[j]'(by omega) = x at cx hrx HPRS
          generalize r[j + 1]'(by omega) = y at cy hry HPRS
          generalize hL0 : Ls p q k ++ (prs r).take j = L0 at CMI HPRS hsm
          clear hL0
          obtain ⟨cnt, hcnt⟩ : ∃ cnt : Int, (L0.count (x, y) : Int) = cnt := ⟨_, rfl⟩
          have hcb : L0.count (x, y) ≤ L0.length := List.count_le_length
          have hwc : IntKind.i64.wrap (cnt + 1) = cnt + 1 := IntWalk.i64_in _ (by omega)
          have hwj : IntKind.i64.wrap ((j : Int) + 1 - 1) = (j : Int) := by rw [show (j : Int) + 1 - 1 = (j : Int) by omega]; exact IntWalk.i64_in _ (by omega)
          have hwj2 : IntKind.i64.wrap (j : Int) = (j : Int) := IntWalk.i64_in _ (by omega)
          have hwf : Wf (x, y) := ⟨wf_of (by omega), wf_of (by omega)⟩
          have HCNT := Lib.hid hcnt
          have CM : Hid (CMap wr.drew bm L0) := Lib.hid (CMI.out.keep (Below.refl _ _).drew)
          have HLK : Hid (∀ w', (w'.cell? ⟨br, off + j, none⟩ = some (.int .i64 x) ∧ w'.cell? ⟨br, off + (j + 1), none⟩ = some (.int .i64 y) ∧ CMap w' bm L0) → (Instr.lookup 43 (.map (some bm)) (.agg #[.int .i64 x, .int .i64 y]) false).run Try.prog w' = .ok (.int .i64 cnt) w') := Lib.hid (fun w' h => by
            have h2 := h.2.2.look hwf
            rw [hcnt] at h2
            exact h2)
          have zbr : br < wr.heap.size := by have := (HBX.out _ BI.out).2.1; have := HSEL.out.lt; omega
          have hj3 : (j : Int) + 1 < (nx : Int) := by omega
          have hj4 : (j : Int) < (nx : Int) := by omega
          have hj5 : (0 : Int) ≤ (j : Int) + 1 := by omega
          have hHeld : wr.drew.cell? ⟨br, off + j, none⟩ = some (.int .i64 x) ∧ wr.drew.cell? ⟨br, off + (j + 1), none⟩ = some (.int .i64 y) ∧ CMap wr.drew bm L0 := ⟨cx, cy, CM.out⟩
          clear hcnt hcb hrx hry CMI hlen hsm
          go_upto_region 14 with fail
          refine SinkN.start 15 [] (fun w' => w'.cell? ⟨br, off + j, none⟩ = some (.int .i64 x) ∧ w'.cell? ⟨br, off + (j + 1), none⟩ = some (.int .i64 y) ∧ CMap w' bm L0) (by kernel_rfl) ?_
          refine SinkN.AnyN.take (fuel := 15) (i := 0) (oi := _) (v := ?_) rfl (by kernel_rfl) (fun _ _ _ h => h) (Or.inl ⟨by rfl, ?_⟩) (by assumption) ?_
          rotate_left
          · (intro w hSw; (try dsimp only at hSw); go_simp)
            try with_reducible rfl
          try simp only [Act.put, List.getElem_toArray, List.getElem_cons_succ, List.getElem_cons_zero, List.setIfInBounds_toArray, List.set_cons_zero, List.set_cons_succ]
          refine SinkN.AnyN.take (fuel := 14) (i := 1) (oi := _) (v := ?_) rfl (by kernel_rfl) (fun _ _ _ h => h) (Or.inl ⟨by rfl, ?_⟩) (by assumption) ?_
          rotate_left
          · (intro w hSw; (try dsimp only at hSw); go_simp)
            try with_reducible rfl
          try simp only [Act.put, List.getElem_toArray, List.getElem_cons_succ, List.getElem_cons_zero, List.setIfInBounds_toArray, List.set_cons_zero, List.set_cons_succ]
          refine SinkN.AnyN.take (fuel := 13) (i := 2) (oi := _) (v := ?_) rfl (by kernel_rfl) (fun _ _ _ h => h) (Or.inl ⟨by rfl, ?_⟩) (by assumption) ?_
          rotate_left
          · (intro w hSw; (try dsimp only at hSw); go_simp)
            try with_reducible rfl
          try simp only [Act.put, List.getElem_toArray, List.getElem_cons_succ, List.getElem_cons_zero, List.setIfInBounds_toArray, List.set_cons_zero, List.set_cons_succ]
          refine SinkN.AnyN.take (fuel := 12) (i := 3) (oi := _) (v := ?_) rfl (by kernel_rfl) (fun _ _ _ h => h) (Or.inl ⟨by rfl, ?_⟩) (by assumption) ?_
          rotate_left
          · (intro w hSw; (try dsimp only at hSw); go_simp)
            try with_reducible rfl
          try simp only [Act.put, List.getElem_toArray, List.getElem_cons_succ, List.getElem_cons_zero, List.setIfInBounds_toArray, List.set_cons_zero, List.set_cons_succ]
          refine SinkN.AnyN.take (fuel := 11) (i := 4) (oi := _) (v := ?_) rfl (by kernel_rfl) (fun _ _ _ h => h) (Or.inl ⟨by rfl, ?_⟩) (by assumption) ?_
          rotate_left
          · (intro w hSw; (try dsimp only at hSw); go_simp)
            try with_reducible rfl
          try simp only [Act.put, List.getElem_toArray, List.getElem_cons_succ, List.getElem_cons_zero, List.setIfInBounds_toArray, List.set_cons_zero, List.set_cons_succ]
          refine SinkN.AnyN.take (fuel := 10) (i := 5) (oi := _) (v := ?_) rfl (by kernel_rfl) (fun _ _ _ h => h) (Or.inl ⟨by rfl, ?_⟩) (by assumption) ?_
          rotate_left
          · (intro w hSw; (try dsimp only at hSw); go_simp)
            try with_reducible rfl
          try simp only [Act.put, List.getElem_toArray, List.getElem_cons_succ, List.getElem_cons_zero, List.setIfInBounds_toArray, List.set_cons_zero, List.set_cons_succ]
          refine SinkN.AnyN.take (fuel := 9) (i := 6) (oi := _) (v := ?_) rfl (by kernel_rfl) (fun _ _ _ h => h) (Or.inl ⟨by rfl, ?_⟩) (by assumption) ?_
          rotate_left
          · (intro w hSw; (try dsimp only at hSw); go_simp)
            try with_reducible rfl
          try simp only [Act.put, List.getElem_toArray, List.getElem_cons_succ, List.getElem_cons_zero, List.setIfInBounds_toArray, List.set_cons_zero, List.set_cons_succ]
          refine SinkN.AnyN.take (fuel := 8) (i := 7) (oi := _) (v := ?_) rfl (by kernel_rfl) (fun _ _ _ h => h) (Or.inl ⟨by rfl, ?_⟩) (by assumption) ?_
          rotate_left
          · (intro w hSw; (try dsimp only at hSw); go_simp)
            try with_reducible rfl
          try simp only [Act.put, List.getElem_toArray, List.getElem_cons_succ, List.getElem_cons_zero, List.setIfInBounds_toArray, List.set_cons_zero, List.set_cons_succ]
          refine SinkN.AnyN.take (fuel := 7) (i := 8) (oi := _) (v := ?_) rfl (by kernel_rfl) (fun _ _ _ h => h) (Or.inl ⟨by rfl, ?_⟩) (by assumption) ?_
          rotate_left
          · (intro w hSw; (try dsimp only at hSw); go_simp)
            try with_reducible rfl
          try simp only [Act.put, List.getElem_toArray, List.getElem_cons_succ, List.getElem_cons_zero, List.setIfInBounds_toArray, List.set_cons_zero, List.set_cons_succ]
          refine SinkN.AnyN.take (fuel := 6) (i := 9) (oi := _) (v := ?_) rfl (by kernel_rfl) (fun _ _ _ h => h) (Or.inl ⟨by rfl, ?_⟩) (by assumption) ?_
          rotate_left
          · (intro w hSw; (try dsimp only at hSw); go_simp)
            try with_reducible rfl
          try simp only [Act.put, List.getElem_toArray, List.getElem_cons_succ, List.getElem_cons_zero, List.setIfInBounds_toArray, List.set_cons_zero, List.set_cons_succ]
          refine SinkN.AnyN.take (fuel := 5) (i := 10) (oi := _) (v := ?_) rfl (by kernel_rfl) (fun _ _ _ h => h) (Or.inl ⟨by rfl, ?_⟩) (by assumption) ?_
          rotate_left
          · (intro w hSw; (try dsimp only at hSw); go_simp)
            try with_reducible rfl
          try simp only [Act.put, List.getElem_toArray, List.getElem_cons_succ, List.getElem_cons_zero, List.setIfInBounds_toArray, List.set_cons_zero, List.set_cons_succ]
          refine SinkN.AnyN.take (fuel := 4) (i := 11) (oi := _) (v := ?_) rfl (by kernel_rfl) (fun _ _ _ h => h) (Or.inl ⟨by rfl, ?_⟩) (by assumption) ?_
          rotate_left
          · (intro w hSw; (try dsimp only at hSw); (have hl : (Instr.lookup 43 (.map (some bm)) (.agg #[.int .i64 x, .int .i64 y]) false).run Try.prog w = .ok (.int .i64 cnt) w := HLK.out w hSw); go_simp)
            try with_reducible rfl
          try simp only [Act.put, List.getElem_toArray, List.getElem_cons_succ, List.getElem_cons_zero, List.setIfInBounds_toArray, List.set_cons_zero, List.set_cons_succ]
          refine SinkN.AnyN.take (fuel := 3) (i := 12) (oi := _) (v := ?_) rfl (by kernel_rfl) (fun _ _ _ h => h) (Or.inl ⟨by rfl, ?_⟩) (by assumption) ?_
          rotate_left
          · (intro w hSw; (try dsimp only at hSw); go_simp)
            try with_reducible rfl
          try simp only [Act.put, List.getElem_toArray, List.getElem_cons_succ, List.getElem_cons_zero, List.setIfInBounds_toArray, List.set_cons_zero, List.set_cons_succ]
          obtain ⟨es1, ck1, v0, st, hme, hcm1, hsto⟩ := (CM.out).entry hwf
          rw [HCNT.out] at hsto
          have hme2 : (Instr.mapEntry 43 (.map (some bm)) (.agg #[.int .i64 x, .int .i64 y])).run Try.prog wr.drew = .ok (.tuple #[v0, .int .i64 ((st : Nat) : Int)]) (setBlock wr.drew bm (.map es1 ck1)) := hme
          have hblk := CM.out.blk
          obtain ⟨es0, ck0, hb0⟩ := hblk
          have hb1 := heap_setBlock_same hb0 (.map es1 ck1)
          obtain ⟨es2, hst2, hcm2⟩ := hsto (setBlock wr.drew bm (.map es1 ck1)) hb1
          have HS1 := Lib.hid (show (setBlock wr.drew bm (.map es1 ck1)).cell? ⟨br, off + j, none⟩ = some (.int .i64 x) ∧ (setBlock wr.drew bm (.map es1 ck1)).cell? ⟨br, off + (j + 1), none⟩ = some (.int .i64 y) ∧ CMap (setBlock wr.drew bm (.map es1 ck1)) bm L0 from ⟨(cell_setBlock hb0 (by omega) _ _).trans cx, (cell_setBlock hb0 (by omega) _ _).trans cy, hcm1⟩)
          clear hme hsto
          refine SinkN.AnyN.ready_ (fuel := 2) (rs := [13]) (by kernel_rfl) (by simp) ?_
          refine SinkN.AllN.cons (o := _) rfl (fun K hK => ?_) SinkN.AllN.nil
          have HKX := Lib.hid hK
          clear hK
          go_simp
          refine HKX.out.out _ _ (.inr HS1.out) ?_
          clear HKX
          try simp only [Act.put, List.getElem_toArray, List.getElem_cons_succ, List.getElem_cons_zero, List.setIfInBounds_toArray, List.set_cons_zero, List.set_cons_succ]
          have hHeld := HS1.out
          refine SinkN.AnyN.take (fuel := 1) (i := 14) (oi := _) (v := ?_) rfl (by kernel_rfl) (fun _ _ _ h => h) (Or.inl ⟨by rfl, ?_⟩) (by assumption) ?_
          rotate_left
          · (intro w hSw; (try dsimp only at hSw); go_simp)
            try with_reducible rfl
          try simp only [Act.put, List.getElem_toArray, List.getElem_cons_succ, List.getElem_cons_zero, List.setIfInBounds_toArray, List.set_cons_zero, List.set_cons_succ]
          refine SinkN.AnyN.ready_ (fuel := 0) (rs := [15]) (by kernel_rfl) (by simp) ?_
          refine SinkN.AllN.cons (o := _) rfl (fun K hK => ?_) SinkN.AllN.nil
          have HKX := Lib.hid hK
          clear hK
          go_simp
          refine HKX.out.out _ _ (.inl (by decide)) ?_
          clear HKX
          try simp only [Act.put, List.getElem_toArray, List.getElem_cons_succ, List.getElem_cons_zero, List.setIfInBounds_toArray, List.set_cons_zero, List.set_cons_succ]
          refine SinkN.AnyN.done (by kernel_rfl) ?_
          have hbm1 := heap_setBlock_same hb1 (.map es2 ck1)
          have bs9 := (heap_setBlock_other hb1 (.map es2 ck1) hbsm).trans ((heap_setBlock_other hb0 (.map es1 ck1) hbsm).trans (show wr.drew.heap[bs]? = _ from BSI.out))
          have b9 := below_setBlock (below_setBlock BI.out.drew hb0 (Nat.le_refl _) (.map es1 ck1)) hb1 (Nat.le_refl _) (.map es2 ck1)
          have CM9 := Lib.hid hcm2
          have BS9 := Lib.hid bs9
          have B9 := Lib.hid b9
          clear hst2 hme2 hHeld HS1 hb0 hb1 hbm1 hcm1 hcm2 bs9 b9 cx cy CM BSI BI HCNT hwc hwj hwj2 zbr
          generalize setBlock (setBlock wr.drew bm (.map es1 ck1)) bm (.map es2 ck1) = w9 at CM9 BS9 B9 ⊢
          go_wp2
          go_roundw
          case rel => exact ⟨j + 1, by omega, by go_num, by rw [HPRS.out]; exact CM9, BS9, B9⟩
          case measure => simp [intOf]; omega
        · obtain rfl : nx = j + 1 := by omega
          have hall : (prs r).take j = prs r := by
            rw [List.take_of_length_le]
            rw [prs_len]
            have := HSEL.out.len
            omega
          rw [hall, ← HSEL.out.next] at CMI
          have hj3 : ¬ ((j : Int) + 1 < ((j + 1 : Nat) : Int)) := by omega
          clear hall
          go_wp2
          go_roundw
          case rel => exact ⟨k + 1, by omega, by go_num, CMI, BSI, BI⟩
          case measure => simp [intOf]; omega
    · obtain rfl : k = 2 := by omega
      have CML : Hid (CMap wr bm (prs p ++ prs q)) := CMO
      obtain ⟨g1, zsz, _, _⟩ := HBX.out _ BO.out
      have zN : w.heap.size < wr.heap.size := by omega
      have cmh := CMap.made wr
      have cml := CML.out.keep ((Below.refl _ _).alloc (Nat.le_refl _) (.map #[] 0))
      have b4 := BO.out.alloc (by omega) (.map #[] 0)
      obtain ⟨bh, hbh⟩ : ∃ bh, bh = wr.heap.size := ⟨_, rfl⟩
      have hbmh : bm < bh := by omega
      clear CMO SEL CML BSO BO BS0 zsz
      go_wp2
      rw [← hbh] at cmh ⊢
      have CMH := Lib.hid cmh
      have CML := Lib.hid cml
      have B4 := Lib.hid b4
      clear hbh cmh cml b4 g1 zN
      generalize wr.alloc (.map #[] 0) = w4 at CMH CML B4 ⊢
      go_loopw [74] (fun s wq => ∃ k : Nat, k ≤ l.length ∧ s = .int .i64 k ∧ Hid (CMap wq bh ((ks l).take k)) ∧ Hid (CMap wq bm (prs p ++ prs q)) ∧ Hid (Below bm w3 wq)) (fun s _ => l.length - (intOf s).toNat)
      case atStart => exact ⟨0, Nat.zero_le _, rfl, by simpa using CMH, CML, B4⟩
      case round =>
        obtain ⟨k, hk, rfl, CH, CL, BO⟩ := hrel
        clear CMH CML B4
        by_cases hkl : k < l.length
        · obtain ⟨b, off, x, y, co', rfl, hbB, he, hcf, hct, hcc⟩ := ((HBX.out _ BO.out).2.2.1).atE hkl
          have hre := HRG.out _ (List.getElem_mem hkl)
          rw [he] at hre
          simp only at hre
          have hksl : k < (ks l).length := by unfold ks; simpa using hkl
          have hks : (ks l).take (k + 1) = (ks l).take k ++ [(x, y)] := by
            rw [List.take_succ_eq_append_getElem hksl]
            have h5 : (ks l)[k]? = some (x, y) := by
              unfold ks
              rw [List.getElem?_map, List.getElem?_eq_getElem hkl, he]
              rfl
            rw [List.getElem?_eq_getElem hksl] at h5
            injection h5 with h5
            rw [h5]
          have hsm : ((ks l).take k).length ≤ 600 := by rw [List.length_take]; omega
          have hbw : b < wr.heap.size := by have := (HBX.out _ BO.out).2.1; omega
          have hkl3 : (k : Int) < (l.length : Int) := by omega
          have HKS := Lib.hid hks
          clear hks hksl he
          generalize (ks l).take k = L0 at CH HKS hsm
          obtain ⟨cnt, hcnt⟩ : ∃ cnt : Int, (L0.count (x, y) : Int) = cnt := ⟨_, rfl⟩
          have hcb : L0.count (x, y) ≤ L0.length := List.count_le_length
          have hwc : IntKind.i64.wrap (cnt + 1) = cnt + 1 := IntWalk.i64_in _ (by omega)
          have hwf : Wf (x, y) := ⟨wf_of (by omega), wf_of (by omega)⟩
          have HCNT := Lib.hid hcnt
          obtain ⟨be, hbe⟩ : ∃ be, be = wr.heap.size := ⟨_, rfl⟩
          have hbeh : be ≠ bh := by have := CH.out.lt; omega
          have hbem : be ≠ bm := by have := CL.out.lt; omega
          have hAl : Below wr.heap.size wr (wr.alloc (.cells #[.int .i64 x, .int .i64 y, .int .i64 co'] 48)) := (Below.refl _ _).alloc (Nat.le_refl _) _
          have EDG := Lib.hid (heap_alloc_new wr (.cells #[.int .i64 x, .int .i64 y, .int .i64 co'] 48))
          have cm6 := CH.out.keep hAl
          have CL6 := Lib.hid (CL.out.keep hAl)
          have B6 := Lib.hid (BO.out.trans (hAl.mono (by have := CL.out.lt; omega)))
          clear hcnt hcb hre CH CL BO hsm hAl
          go_upto_region 20 with fail
          rw [← hbe] at EDG ⊢
          clear hbe hcf hct hcc hbw hbB
          generalize wr.alloc (.cells #[.int .i64 x, .int .i64 y, .int .i64 co'] 48) = w6 at EDG cm6 CL6 B6 ⊢
          have cx := blk_cell EDG.out 0
          have cy := blk_cell EDG.out 1
          simp only [List.getElem?_toArray, List.getElem?_cons_zero, List.getElem?_cons_succ] at cx cy
          have zE := lt_of_block EDG.out
          have CM : Hid (CMap w6.drew bh L0) := Lib.hid (cm6.keep (Below.refl _ _).drew)
          have HLK : Hid (∀ w', (w'.cell? ⟨be, 0, none⟩ = some (.int .i64 x) ∧ w'.cell? ⟨be, 1, none⟩ = some (.int .i64 y) ∧ CMap w' bh L0) → (Instr.lookup 43 (.map (some bh)) (.agg #[.int .i64 x, .int .i64 y]) false).run Try.prog w' = .ok (.int .i64 cnt) w') := Lib.hid (fun w' h => by
            have h2 := h.2.2.look hwf
            rw [HCNT.out] at h2
            exact h2)
          have hHeld : w6.drew.cell? ⟨be, 0, none⟩ = some (.int .i64 x) ∧ w6.drew.cell? ⟨be, 1, none⟩ = some (.int .i64 y) ∧ CMap w6.drew bh L0 := ⟨cx, cy, CM.out⟩
          clear cm6
          refine SinkN.start 10 [] (fun w' => w'.cell? ⟨be, 0, none⟩ = some (.int .i64 x) ∧ w'.cell? ⟨be, 1, none⟩ = some (.int .i64 y) ∧ CMap w' bh L0) (by kernel_rfl) ?_
          refine SinkN.AnyN.take (fuel := 10) (i := 0) (oi := _) (v := ?_) rfl (by kernel_rfl) (fun _ _ _ h => h) (Or.inl ⟨by rfl, ?_⟩) (by assumption) ?_
          rotate_left
          · (intro w hSw; (try dsimp only at hSw); go_simp)
            try with_reducible rfl
          try simp only [Act.put, List.getElem_toArray, List.getElem_cons_succ, List.getElem_cons_zero, List.setIfInBounds_toArray, List.set_cons_zero, List.set_cons_succ]
          refine SinkN.AnyN.take (fuel := 9) (i := 1) (oi := _) (v := ?_) rfl (by kernel_rfl) (fun _ _ _ h => h) (Or.inl ⟨by rfl, ?_⟩) (by assumption) ?_
          rotate_left
          · (intro w hSw; (try dsimp only at hSw); go_simp)
            try with_reducible rfl
          try simp only [Act.put, List.getElem_toArray, List.getElem_cons_succ, List.getElem_cons_zero, List.setIfInBounds_toArray, List.set_cons_zero, List.set_cons_succ]
          refine SinkN.AnyN.take (fuel := 8) (i := 2) (oi := _) (v := ?_) rfl (by kernel_rfl) (fun _ _ _ h => h) (Or.inl ⟨by rfl, ?_⟩) (by assumption) ?_
          rotate_left
          · (intro w hSw; (try dsimp only at hSw); go_simp)
            try with_reducible rfl
          try simp only [Act.put, List.getElem_toArray, List.getElem_cons_succ, List.getElem_cons_zero, List.setIfInBounds_toArray, List.set_cons_zero, List.set_cons_succ]
          refine SinkN.AnyN.take (fuel := 7) (i := 3) (oi := _) (v := ?_) rfl (by kernel_rfl) (fun _ _ _ h => h) (Or.inl ⟨by rfl, ?_⟩) (by assumption) ?_
          rotate_left
          · (intro w hSw; (try dsimp only at hSw); go_simp)
            try with_reducible rfl
          try simp only [Act.put, List.getElem_toArray, List.getElem_cons_succ, List.getElem_cons_zero, List.setIfInBounds_toArray, List.set_cons_zero, List.set_cons_succ]
          refine SinkN.AnyN.take (fuel := 6) (i := 4) (oi := _) (v := ?_) rfl (by kernel_rfl) (fun _ _ _ h => h) (Or.inl ⟨by rfl, ?_⟩) (by assumption) ?_
          rotate_left
          · (intro w hSw; (try dsimp only at hSw); go_simp)
            try with_reducible rfl
          try simp only [Act.put, List.getElem_toArray, List.getElem_cons_succ, List.getElem_cons_zero, List.setIfInBounds_toArray, List.set_cons_zero, List.set_cons_succ]
          refine SinkN.AnyN.take (fuel := 5) (i := 5) (oi := _) (v := ?_) rfl (by kernel_rfl) (fun _ _ _ h => h) (Or.inl ⟨by rfl, ?_⟩) (by assumption) ?_
          rotate_left
          · (intro w hSw; (try dsimp only at hSw); go_simp)
            try with_reducible rfl
          try simp only [Act.put, List.getElem_toArray, List.getElem_cons_succ, List.getElem_cons_zero, List.setIfInBounds_toArray, List.set_cons_zero, List.set_cons_succ]
          refine SinkN.AnyN.take (fuel := 4) (i := 6) (oi := _) (v := ?_) rfl (by kernel_rfl) (fun _ _ _ h => h) (Or.inl ⟨by rfl, ?_⟩) (by assumption) ?_
          rotate_left
          · (intro w hSw; (try dsimp only at hSw); (have hl : (Instr.lookup 43 (.map (some bh)) (.agg #[.int .i64 x, .int .i64 y]) false).run Try.prog w = .ok (.int .i64 cnt) w := HLK.out w hSw); go_simp)
            try with_reducible rfl
          try simp only [Act.put, List.getElem_toArray, List.getElem_cons_succ, List.getElem_cons_zero, List.setIfInBounds_toArray, List.set_cons_zero, List.set_cons_succ]
          refine SinkN.AnyN.take (fuel := 3) (i := 7) (oi := _) (v := ?_) rfl (by kernel_rfl) (fun _ _ _ h => h) (Or.inl ⟨by rfl, ?_⟩) (by assumption) ?_
          rotate_left
          · (intro w hSw; (try dsimp only at hSw); go_simp)
            try with_reducible rfl
          try simp only [Act.put, List.getElem_toArray, List.getElem_cons_succ, List.getElem_cons_zero, List.setIfInBounds_toArray, List.set_cons_zero, List.set_cons_succ]
          obtain ⟨es1, ck1, v0, st, hme, hcm1, hsto⟩ := (CM.out).entry hwf
          rw [HCNT.out] at hsto
          have hme2 : (Instr.mapEntry 43 (.map (some bh)) (.agg #[.int .i64 x, .int .i64 y])).run Try.prog w6.drew = .ok (.tuple #[v0, .int .i64 ((st : Nat) : Int)]) (setBlock w6.drew bh (.map es1 ck1)) := hme
          have hblk := CM.out.blk
          obtain ⟨es0, ck0, hb0⟩ := hblk
          have hb1 := heap_setBlock_same hb0 (.map es1 ck1)
          obtain ⟨es2, hst2, hcm2⟩ := hsto (setBlock w6.drew bh (.map es1 ck1)) hb1
          have HS1 := Lib.hid (show (setBlock w6.drew bh (.map es1 ck1)).cell? ⟨be, 0, none⟩ = some (.int .i64 x) ∧ (setBlock w6.drew bh (.map es1 ck1)).cell? ⟨be, 1, none⟩ = some (.int .i64 y) ∧ CMap (setBlock w6.drew bh (.map es1 ck1)) bh L0 from ⟨(cell_setBlock hb0 (by omega) _ _).trans cx, (cell_setBlock hb0 (by omega) _ _).trans cy, hcm1⟩)
          clear hme hsto
          refine SinkN.AnyN.ready_ (fuel := 2) (rs := [8]) (by kernel_rfl) (by simp) ?_
          refine SinkN.AllN.cons (o := _) rfl (fun K hK => ?_) SinkN.AllN.nil
          have HKX := Lib.hid hK
          clear hK
          go_simp
          refine HKX.out.out _ _ (.inr HS1.out) ?_
          clear HKX
          try simp only [Act.put, List.getElem_toArray, List.getElem_cons_succ, List.getElem_cons_zero, List.setIfInBounds_toArray, List.set_cons_zero, List.set_cons_succ]
          have hHeld := HS1.out
          refine SinkN.AnyN.take (fuel := 1) (i := 9) (oi := _) (v := ?_) rfl (by kernel_rfl) (fun _ _ _ h => h) (Or.inl ⟨by rfl, ?_⟩) (by assumption) ?_
          rotate_left
          · (intro w hSw; (try dsimp only at hSw); go_simp)
            try with_reducible rfl
          try simp only [Act.put, List.getElem_toArray, List.getElem_cons_succ, List.getElem_cons_zero, List.setIfInBounds_toArray, List.set_cons_zero, List.set_cons_succ]
          refine SinkN.AnyN.ready_ (fuel := 0) (rs := [10]) (by kernel_rfl) (by simp) ?_
          refine SinkN.AllN.cons (o := _) rfl (fun K hK => ?_) SinkN.AllN.nil
          have HKX := Lib.hid hK
          clear hK
          go_simp
          refine HKX.out.out _ _ (.inl (by decide)) ?_
          clear HKX
          try simp only [Act.put, List.getElem_toArray, List.getElem_cons_succ, List.getElem_cons_zero, List.setIfInBounds_toArray, List.set_cons_zero, List.set_cons_succ]
          refine SinkN.AnyN.done (by kernel_rfl) ?_
          have CM9 := Lib.hid hcm2
          have CL9 := Lib.hid ((CL6.out.keep (Below.refl _ _).drew).other hb0 (by omega) (.map es1 ck1) |>.other hb1 (by omega) (.map es2 ck1))
          have B9 := Lib.hid (below_setBlock (below_setBlock B6.out.drew hb0 (by omega) (.map es1 ck1)) hb1 (by omega) (.map es2 ck1))
          clear hst2 hme2 hHeld HS1 hb0 hb1 hcm1 hcm2 cx cy CM CL6 B6 HCNT hwc EDG zE
          generalize setBlock (setBlock w6.drew bh (.map es1 ck1)) bh (.map es2 ck1) = w9 at CM9 CL9 B9 ⊢
          go_wp2
          go_roundw
          case rel =>
            refine ⟨_, _, _, _, _, _, _, _, _, _, _, _, _, _, _, _, ⟨k + 1, by omega, ?_, by rw [HKS.out]; exact CM9, CL9, B9⟩, rfl⟩
            go_num
          case measure => simp [intOf]; omega
        · obtain rfl : k = l.length := by omega
          have CHL : Hid (CMap wr bh (ks l)) := Lib.hid (by
            have h := CH.out
            rwa [show (ks l).take l.length = ks l from List.take_of_length_le (by unfold ks; simp)] at h)
          obtain ⟨es, ck, hb, hst, hall, hin⟩ := CL.out
          have hrg := run_range_map (P := Try.prog) wr 43 46 3 bm es ck und hb
          obtain ⟨rI, hrI⟩ : ∃ rI, rI = wr.heap.size := ⟨_, rfl⟩
          have hAl : Below wr.heap.size wr (wr.alloc (.mapIter (some bm) ck #[] ck)) := (Below.refl _ _).alloc (Nat.le_refl _) _
          have hI := heap_alloc_new wr (.mapIter (some bm) ck #[] ck)
          have hB := (hAl.block bm (lt_of_map hb)).trans hb
          have cm6 := CHL.out.keep hAl
          have b6 := BO.out.trans (hAl.mono (by have := CL.out.lt; omega))
          have hrm : bm < rI := by have := CL.out.lt; omega
          have hrh : bh < rI := by have := CHL.out.lt; omega
          have HST := Lib.hid hst
          have HALL := Lib.hid hall
          have HIN := Lib.hid hin
          clear CH CL BO CHL hst hall hin hb hAl
          go_wp2
          rw [← hrI] at hI ⊢
          have IT0 := Lib.hid hI
          have BM0 := Lib.hid hB
          have CM6 := Lib.hid cm6
          have B6 := Lib.hid b6
          clear hrg hrI hI hB cm6 b6
          generalize wr.alloc (.mapIter (some bm) ck #[] ck) = w6 at IT0 BM0 CM6 B6 ⊢
          have HOLD := Lib.hid HST.out.1
          go_loopg [20] (leftOf es #[]).size (fun g s wq => ∃ (seen : Array Nat) (c0 : Nat), Hid (wq.heap[rI]? = some (.mapIter (some bm) ck seen c0)) ∧ ck ≤ c0 ∧ Hid ((leftOf es seen).size ≤ g) ∧ Hid (∀ e ∈ es.toList, e.born ∈ seen → ∃ r : Int × Int, e.key = pk r ∧ (prs p ++ prs q).count r ≤ cnE l r.1 r.2) ∧ Hid (wq.heap[bm]? = some (.map es ck)) ∧ Hid (CMap wq bh (ks l)) ∧ Hid (Below bm w3 wq))
          case atStart => exact ⟨#[], ck, IT0, Nat.le_refl _, Lib.hid (Nat.le_refl _), Lib.hid (fun e _ h => by simp at h), BM0, CM6, B6⟩
          case round =>
            obtain ⟨seen, c0, HIT, hcc, HSZ, HSE, HBM, CH, BO⟩ := hrel
            clear IT0 BM0 CM6 B6
            go_wp2_with (first | (at_next; refine wpList_next_map _ rfl _ rfl rI bm ck c0 seen es ck rfl HIT.out HBM.out HOLD.out hcc ?_ ?_) | go_in)
            · intro HH0
              have h0 := HH0.out
              have hapt : aptB l p q = true := apt_iff.2 (fun a b => by
                by_cases hm : (a, b) ∈ prs p ++ prs q
                · obtain ⟨x, hx, hk⟩ := HIN.out _ hm
                  obtain ⟨r, hr, hle⟩ := HSE.out x hx (left_none (by rw [h0]; rfl) x hx)
                  have : r = (a, b) := pk_inj (by rw [← hr, hk])
                  subst this
                  exact hle
                · rw [List.count_eq_zero.2 hm]; exact Nat.zero_le _)
              have HF := Lib.hid (HBX.out _ BO.out).2.2.2
              have HAPT := Lib.hid hapt
              clear hapt h0 HH0
              go_wp2
              go_ret2
              exact ⟨by rw [HAPT.out]; rfl, HF.out⟩
            · intro e HE w5 HW5
              have he : e ∈ (leftOf es seen).toList := by simpa using HE.out
              have hw5 := HW5.out
              have hwi : w5.heap[rI]? = some (.mapIter (some bm) ck seen c0) := by rcases hw5 with rfl | rfl <;> exact HIT.out
              have hwm : w5.heap[bm]? = some (.map es ck) := by rcases hw5 with rfl | rfl <;> exact HBM.out
              have hwh : CMap w5 bh (ks l) := by
                rcases hw5 with rfl | rfl
                · exact CH.out
                · exact CH.out.keep (Below.refl _ _).drew
              have hwb : Below bm w3 w5 := by
                rcases hw5 with rfl | rfl
                · exact BO.out
                · exact BO.out.drew
              have v1 := any_set_same hwi (.mapIter (some bm) ck (seen.push e.born) ck)
              have v2 := (any_set_other (w := w5) (.mapIter (some bm) ck (seen.push e.born) ck) (show bm ≠ rI by omega)).trans hwm
              have v3 := hwh.same (any_set_other (w := w5) (.mapIter (some bm) ck (seen.push e.born) ck) (show bh ≠ rI by omega))
              have v4 := below_any hwb (show bm ≤ rI by omega) (.mapIter (some bm) ck (seen.push e.born) ck)
              clear hwi hwm hwh hwb hw5 HW5
              generalize setBlock w5 rI (.mapIter (some bm) ck (seen.push e.born) ck) = wv at v1 v2 v3 v4 ⊢
              have hen := run_entry_at (P := Try.prog) wv rI bm ck seen es ck e v1 v2 (left_mem he) HST.out.2.1
              obtain ⟨⟨x, y⟩, hwf, hkey, hval⟩ := HALL.out e (left_mem he)
              have hal : Below wv.heap.size wv (wv.alloc (.cells #[.int .i64 x, .int .i64 y] 46)) := (Below.refl _ _).alloc (Nat.le_refl _) _
              have hlk := (v3.keep hal).look hwf
              have v5 := (hal.block rI (lt_of_map v1)).trans v1
              have v6 := (hal.block bm (lt_of_map v2)).trans v2
              have v7 := v3.keep hal
              have v8 := v4.trans (hal.mono (by have := lt_of_map v2; omega))
              obtain ⟨n1, hn1⟩ : ∃ n1 : Int, ((prs p ++ prs q).count (x, y) : Int) = n1 := ⟨_, rfl⟩
              obtain ⟨n2, hn2⟩ : ∃ n2 : Int, ((ks l).count (x, y) : Int) = n2 := ⟨_, rfl⟩
              have hcnE : cnE l x y = (ks l).count (x, y) := rfl
              rw [hval, hn1, hkey] at hen
              rw [hn2] at hlk
              unfold pk at hen hlk
              have hgt : n1 ≤ n2 ∨ n2 < n1 := by omega
              have HNE := Lib.hid (And.intro hn1 hn2)
              have HKEY := Lib.hid hkey
              have HLT := Lib.hid (left_lt he)
              have HMEM := Lib.hid (left_mem he)
              rw [hkey, hval, hn1]
              unfold pk
              have V5 := Lib.hid v5
              have V6 := Lib.hid v6
              have V7 := Lib.hid v7
              have V8 := Lib.hid v8
              clear v1 v2 v3 v4 v5 v6 v7 v8 hal hn1 hn2 hkey hval he HE HIT HBM CH BO hwf
              simp only at hen hlk
              rcases hgt with hle | hgt
              · have hd : ¬ (n2 < n1) := by omega
                clear hle
                go_wp2
                go_roundg ((leftOf es (seen.push e.born)).size)
                case' measure => have := HLT.out; have := HSZ.out; omega
                case' rel =>
                  refine ⟨seen.push e.born, ck, V5, Nat.le_refl _, Lib.hid (Nat.le_refl _), Lib.hid (fun e2 he2 hb2 => ?_), V6, V7, V8⟩
                  rw [Array.mem_push] at hb2
                  rcases hb2 with hb2 | hb2
                  · exact HSE.out e2 he2 hb2
                  · have hee : e2 = e := born_inj HST.out.2.1 he2 HMEM.out hb2
                    subst hee
                    exact ⟨(x, y), HKEY.out, by have h := HNE.out; show (prs p ++ prs q).count (x, y) ≤ cnE l x y; rw [hcnE]; omega⟩
              · have hapt : aptB l p q = false := by
                  rw [Bool.eq_false_iff]
                  intro h
                  have h2 := apt_iff.1 h x y
                  have h := HNE.out
                  rw [hcnE] at h2
                  omega
                have HF := Lib.hid (HBX.out _ V8.out).2.2.2
                have HAPT := Lib.hid hapt
                clear hapt
                go_wp2
                go_ret2
                exact ⟨by rw [HAPT.out]; rfl, HF.out⟩
end Go.Proofs.Ytjebckehmmbkbaa.TwinA
