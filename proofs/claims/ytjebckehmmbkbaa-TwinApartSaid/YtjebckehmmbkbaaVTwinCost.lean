/- The walk of fellref.CostTwo, for two right walks: what they cost, gone on the cheapest edges. -/
import Derived.Test.YtjebckehmmbkbaaVTwinSteps
import Derived.Test.YtjebckehmmbkbaaVTwinLeast
import Derived.Test.YtjebckehmmbkbaaVTwinFolP
import Derived.Test.YtjebckehmmbkbaaVSortI
namespace Go.Proofs.Ytjebckehmmbkbaa.TwinA
open Go.RowKit Go.Proofs.Ytjebckehmmbkbaa NetLaw BellLaw FlowLaw WalkLaw TwinLaw Go.Proofs.Ytjebckehmmbkbaa.Net Go.Proofs.Ytjebckehmmbkbaa.Std Go.Proofs.Ytjebckehmmbkbaa.PairMap
set_option linter.unusedSimpArgs false
set_option linter.unusedVariables false
/-- the costs from a to b, in order -/
def ms (l : List E) (a b : Int) : List Int := (cs l a b).mergeSort fun x y => decide (x ≤ y)
def cellv (l : List E) (p q : List Int) (a b : Int) : Int := cell2 (ms l a b) ((prs p ++ prs q).count (a, b))
def ctwo (n : Nat) (l : List E) (p q : List Int) : Int := dsum n (cellv l p q)
/-- what is summed ahead of places u and v -/
def osum (n : Nat) (l : List E) (p q : List Int) (u v : Nat) : Int := rsum u (fun a => rsum n fun b => cellv l p q a b) + rsum v (fun b => cellv l p q u b)
theorem ms_len (l : List E) (a b : Int) : (ms l a b).length = (cs l a b).length := List.length_mergeSort _
theorem ms_perm (l : List E) (a b : Int) : (ms l a b).Perm (cs l a b) := List.mergeSort_perm _ _
theorem sum_bd : ∀ L : List Int, (∀ x ∈ L, 0 ≤ x ∧ x ≤ 10000) → 0 ≤ L.sum ∧ L.sum ≤ 10000 * (L.length : Int) := by
  intro L
  induction L with
  | nil => intro _; simp
  | cons x r ih =>
    intro h
    have h1 := h x (by simp)
    have h2 := ih (fun y hy => h y (List.mem_cons_of_mem _ hy))
    rw [List.sum_cons, List.length_cons]
    omega
theorem cs_bd {l : List E} (hc : ∀ e ∈ l, 1 ≤ e.2.2 ∧ e.2.2 ≤ 10000) (a b : Int) : ∀ x ∈ cs l a b, 0 ≤ x ∧ x ≤ 10000 := fun x hx => by
  unfold cs at hx
  obtain ⟨e, he, rfl⟩ := List.mem_map.1 hx
  have := hc e (List.mem_filter.1 he).1
  omega
theorem cs_small (l : List E) (a b : Int) : (cs l a b).length ≤ l.length := by
  unfold cs
  rw [List.length_map]
  exact List.length_filter_le _ _
theorem take_bd {l : List E} (hc : ∀ e ∈ l, 1 ≤ e.2.2 ∧ e.2.2 ≤ 10000) (h6 : l.length ≤ 600) (a b : Int) (i : Nat) : 0 ≤ ((ms l a b).take i).sum ∧ ((ms l a b).take i).sum ≤ 6000000 := by
  have h := sum_bd ((ms l a b).take i) (fun x hx => cs_bd hc a b x ((ms_perm l a b).mem_iff.1 (List.mem_of_mem_take hx)))
  have h2 : ((ms l a b).take i).length ≤ 600 := by rw [List.length_take, ms_len]; have := cs_small l a b; omega
  omega
theorem rsum_bd {f : Nat → Int} {B : Int} (hf : ∀ i, 0 ≤ f i ∧ f i ≤ B) : ∀ k : Nat, 0 ≤ rsum k f ∧ rsum k f ≤ k * B := by
  intro k
  induction k with
  | zero => simp [rsum]
  | succ k ih =>
    have := hf k
    rw [rsum, show ((k + 1 : Nat) : Int) = (k : Int) + 1 by omega, Int.add_mul]
    omega
theorem cellv_bd {l : List E} (hc : ∀ e ∈ l, 1 ≤ e.2.2 ∧ e.2.2 ≤ 10000) (h6 : l.length ≤ 600) (p q : List Int) (a b : Int) : 0 ≤ cellv l p q a b ∧ cellv l p q a b ≤ 6000000 := take_bd hc h6 a b _
theorem osum_bd {n : Nat} {l : List E} (hc : ∀ e ∈ l, 1 ≤ e.2.2 ∧ e.2.2 ≤ 10000) (h6 : l.length ≤ 600) (hn : n ≤ 64) (p q : List Int) {u v : Nat} (hu : u ≤ 64) (hv : v ≤ 64) : 0 ≤ osum n l p q u v ∧ osum n l p q u v ≤ 30000000000 := by
  have h1 := rsum_bd (f := fun b => cellv l p q u b) (B := 6000000) (fun i => cellv_bd hc h6 p q u i) v
  have h2 := rsum_bd (f := fun a => rsum n fun b => cellv l p q a b) (B := 384000000) (fun i => by
    have := rsum_bd (f := fun b => cellv l p q i b) (B := 6000000) (fun j => cellv_bd hc h6 p q i j) n
    omega) u
  unfold osum
  omega
theorem osum_row (n : Nat) (l : List E) (p q : List Int) (u : Nat) : osum n l p q u n = osum n l p q (u + 1) 0 := by
  unfold osum
  show _ = (rsum u (fun a : Nat => rsum n fun b : Nat => cellv l p q a b) + (rsum n fun b : Nat => cellv l p q u b)) + 0
  omega
theorem osum_all (n : Nat) (l : List E) (p q : List Int) : osum n l p q n 0 = ctwo n l p q := by
  unfold osum ctwo dsum
  rw [show rsum 0 (fun b => cellv l p q (n : Int) b) = 0 from rfl]
  omega
theorem osum_next {n : Nat} {l : List E} {p q : List Int} {u v : Nat} {kc : Nat} (hk : (prs p ++ prs q).count ((u : Int), (v : Int)) = kc) : osum n l p q u v + ((ms l u v).take (min (ms l u v).length kc)).sum = osum n l p q u (v + 1) := by
  unfold osum
  rw [rsum]
  have e : cellv l p q u v = ((ms l u v).take (min (ms l u v).length kc)).sum := by
    unfold cellv cell2
    rw [hk]
  rw [e]
  omega
theorem cs_next {l : List E} {k : Nat} (hk : k < l.length) (a b : Int) : cs (l.take (k + 1)) a b = cs (l.take k) a b ++ (if (l[k].1, l[k].2.1) = (a, b) then [l[k].2.2] else []) := by
  unfold cs
  rw [List.take_succ_eq_append_getElem hk, List.filter_append, List.map_append]
  congr 1
  rw [List.filter_cons]
  by_cases h : (l[k].1, l[k].2.1) = (a, b)
  · rw [if_pos (by simpa using h), if_pos h]; rfl
  · rw [if_neg (by simpa using h), if_neg h]; rfl
set_option maxRecDepth 100000 in
set_option maxHeartbeats 16000000 in
theorem costtwo_any (n : Nat) (A : Option Addr) (c : Nat) (l : List E) (Aa Ab : Option Addr) (ca cb na nb : Nat) (p q : List Int) (x1 y1 : Int) (w : World) (hl : Sl w w.heap.size 3 ce A l) (hp : Sl w w.heap.size 1 ci Aa p) (hq : Sl w w.heap.size 1 ci Ab q) (hna : p.length = na) (hnb : q.length = nb) (hcp : cost n l p = (x1, 0)) (hcq : cost n l q = (y1, 0)) (hc1 : ∀ e ∈ l, 1 ≤ e.2.2) :
    Calls Try.prog 9 #[.agg #[.int .i64 n, .slice A l.length c], .slice Aa na ca, .slice Ab nb cb] w fun e w' => e = .returned (.int .i64 (ctwo n l p q)) ∧ Below w.heap.size w w' := by
  have hgood := chk_zero.1 (cost_zero.1 (show (cost n l p).2 = 0 by rw [hcp])).1
  have h6 := hgood.len
  have hN := hgood.hi
  have hn64 : n ≤ 64 := by omega
  have hc : ∀ e ∈ l, 1 ≤ e.2.2 ∧ e.2.2 ≤ 10000 := fun e he => ⟨hc1 e he, (hgood.cost e he).2⟩
  have p0 := (cost_zero.1 (show (cost n l p).2 = 0 by rw [hcp])).2.1
  have q0' := (cost_zero.1 (show (cost n l q).2 = 0 by rw [hcq])).2.1
  have p100 := (cost_zero.1 (show (cost n l p).2 = 0 by rw [hcp])).2.2.1
  obtain ⟨ba, oa, rfl, _, _⟩ := hp (by omega)
  obtain ⟨bb, ob, rfl, _, _⟩ := hq (by omega)
  have hw0 : Below w.heap.size w (w.alloc (.cells #[.int .i64 n, .slice A l.length c] 24)) := (Below.refl _ _).alloc (Nat.le_refl _) _
  have HK : Hid (∀ W, Below (w.heap.size + 1) (w.alloc (.cells #[.int .i64 n, .slice A l.length c] 24)) W → W.cell? ⟨w.heap.size, 0, none⟩ = some (.int .i64 n) ∧ W.cell? ⟨w.heap.size, 1, none⟩ = some (.slice A l.length c) ∧ w.heap.size + 1 ≤ W.heap.size ∧ Sl W W.heap.size 3 ce A l ∧ Sl W W.heap.size 1 ci (some ⟨ba, oa, none⟩) p ∧ Sl W W.heap.size 1 ci (some ⟨bb, ob, none⟩) q ∧ Below w.heap.size w W) := Lib.hid (fun W hW => by
    obtain ⟨cc, _⟩ := keepAt hW (Nat.lt_succ_self _)
    have q0 := cc 0
    have q1 := cc 1
    simp at q0 q1
    have H := hw0.trans (hW.mono (Nat.le_succ _))
    have hz := hW.size
    simp at hz
    exact ⟨q0, q1, hz, (hl.keep H (Nat.le_refl _)).more H.size, (hp.keep H (Nat.le_refl _)).more H.size, (hq.keep H (Nat.le_refl _)).more H.size, H⟩)
  have HB0 := Lib.hid (Below.refl (w.heap.size + 1) (w.alloc (.cells #[.int .i64 n, .slice A l.length c] 24)))
  have KST : Hid (∀ (W : World) (u v : Int) (kc : Nat), Below (w.heap.size + 1) (w.alloc (.cells #[.int .i64 n, .slice A l.length c] 24)) W → (prs p ++ prs q).count (u, v) = kc → Calls Try.prog 25 #[.int .i64 u, .int .i64 v, .slice (some ⟨W.heap.size, 0, none⟩) 2 2] (W.alloc (.cells #[.slice (some ⟨ba, oa, none⟩) na ca, .slice (some ⟨bb, ob, none⟩) nb cb] 29)) fun e w' => e = .returned (.int .i64 (kc : Int)) ∧ Hid (W.alloc (.cells #[.slice (some ⟨ba, oa, none⟩) na ca, .slice (some ⟨bb, ob, none⟩) nb cb] 29) = w')) := Lib.hid (fun W u v kc hW hkc => by
    obtain ⟨_, _, hz, _, sp, sq, _⟩ := HK.out W hW
    have hA : Below W.heap.size W (W.alloc (.cells #[.slice (some ⟨ba, oa, none⟩) na ca, .slice (some ⟨bb, ob, none⟩) nb cb] 29)) := (Below.refl _ _).alloc (Nat.le_refl _) _
    have hb := heap_alloc_new W (.cells #[.slice (some ⟨ba, oa, none⟩) na ca, .slice (some ⟨bb, ob, none⟩) nb cb] 29)
    have c0 := blk_cell hb 0
    have c1 := blk_cell hb 1
    simp only [List.getElem?_toArray, List.getElem?_cons_zero, List.getElem?_cons_succ] at c0 c1
    have sp2 := (sp.keep hA (Nat.le_refl _)).more hA.size
    have sq2 := (sq.keep hA (Nat.le_refl _)).more hA.size
    generalize W.alloc (.cells #[.slice (some ⟨ba, oa, none⟩) na ca, .slice (some ⟨bb, ob, none⟩) nb cb] 29) = W2 at *
    obtain ⟨b1, o1, e1, s1⟩ := sel_of (k := 0) (P := p) (Q := q) sp2 hna (Below.refl _ _) hcp c0 (by unfold Ls; simp) (by unfold Ls; simp)
    obtain ⟨b2, o2, e2, s2⟩ := sel_of (k := 1) (P := p) (Q := q) sq2 hnb (Below.refl _ _) hcq c1 (by unfold Ls; simp) (by unfold Ls; simpa using prs_small p p100)
    have h := steps_any u v W.heap.size 2 p q W2 (lt_of_block hb) (fun k hk => by
      match k, hk with
      | 0, _ => exact ⟨_, _, _, _, _, s1⟩
      | 1, _ => exact ⟨_, _, _, _, _, s2⟩)
    rw [hkc] at h
    exact h)
  have HC := Lib.hid hc
  obtain ⟨i0, hi, hz0, hz1, hz2⟩ := info_parts Go.Proofs.Ytjebckehmmbkbaa.TwinP.infoIntF
  clear hl hp hq hna hnb hcp hcq hc1 hgood hc hw0 p0 q0' p100 hN
  go_enter Try.func9, Try.ntmps9
  obtain ⟨q0, q1, Z0, _, _, _, _⟩ := HK.out _ HB0.out
  go_wp2
  clear q0 q1 Z0
  go_loopw [17, 7] (fun s s7 wr => ∃ u : Nat, u ≤ n ∧ s = .int .i64 u ∧ s7 = .int .i64 (osum n l p q u 0) ∧ Hid (Below (w.heap.size + 1) (w.alloc (.cells #[.int .i64 n, .slice A l.length c] 24)) wr)) (fun s _ _ => n - (intOf s).toNat)
  case atStart => exact ⟨0, Nat.zero_le _, rfl, rfl, HB0⟩
  case round =>
    obtain ⟨u, hu, rfl, rfl, BU⟩ := hrel
    clear HB0
    by_cases hun : u < n
    · obtain ⟨q0, q1, Z0, _, _, _, _⟩ := HK.out _ BU.out
      have hun2 : (u : Int) < (n : Int) := by omega
      go_wp2
      clear q0 q1 Z0
      go_loopw [22, 7] (fun s s7 wr => ∃ v : Nat, v ≤ n ∧ s = .int .i64 v ∧ s7 = .int .i64 (osum n l p q u v) ∧ Hid (Below (w.heap.size + 1) (w.alloc (.cells #[.int .i64 n, .slice A l.length c] 24)) wr)) (fun s _ _ => n - (intOf s).toNat)
      case atStart => exact ⟨0, Nat.zero_le _, rfl, rfl, BU⟩
      case round =>
        obtain ⟨v, hv, rfl, rfl, BV⟩ := hrel
        rename World => wv
        clear BU
        by_cases hvn : v < n
        · obtain ⟨q0, q1, Z0, sl, _, _, _⟩ := HK.out _ BV.out
          have hvn2 : (v : Int) < (n : Int) := by omega
          have hob := osum_bd (n := n) HC.out h6 hn64 p q (u := u) (v := v) (by omega) (by omega)
          obtain ⟨ou, hou⟩ : ∃ ou, osum n l p q u v = ou := ⟨_, rfl⟩
          rw [hou] at hob
          have HOU := Lib.hid hou
          rw [hou]
          clear hou
          go_wp2
          have SLV := Lib.hid sl
          clear q0 q1 Z0 sl
          go_loopw [28, 10] (fun s s10 wq => ∃ (k : Nat) (A1 : Option Addr) (m c1 : Nat) (L : List Int), k ≤ l.length ∧ s = .int .i64 k ∧ s10 = .slice A1 m c1 ∧ Hid (L = cs (l.take k) u v) ∧ Hid (L.length = m) ∧ m ≤ k ∧ Hid (Own wq wv.heap.size 3 1 ci (.slice A1 m c1) L) ∧ Hid (Below wv.heap.size wv wq)) (fun s _ _ => l.length - (intOf s).toNat)
          case atStart => exact ⟨0, none, 0, 0, [], Nat.zero_le _, rfl, rfl, Lib.hid (by unfold cs; simp), Lib.hid rfl, Nat.le_refl _, Lib.hid Own.nil_, Lib.hid (Below.refl _ _)⟩
          case round =>
            obtain ⟨k, A1, m, c1, L, hk, rfl, rfl, HL, HLM, hmk, HOW, BQ⟩ := hrel
            by_cases hkl : k < l.length
            · obtain ⟨b, off, f, t', co, rfl, hbB, he, hcf, hct, hcc⟩ := (SLV.out.keep BQ.out (Nat.le_refl _)).atE hkl
              have hbw : b < wr.heap.size := by have := BQ.out.size; omega
              have hkl3 : (k : Int) < (l.length : Int) := by omega
              have hnx := cs_next hkl (u : Int) (v : Int)
              rw [he, ← HL.out] at hnx
              simp only at hnx
              have HNX := Lib.hid hnx
              have hAl : Below wr.heap.size wr (wr.alloc (.cells #[.int .i64 f, .int .i64 t', .int .i64 co] 48)) := (Below.refl _ _).alloc (Nat.le_refl _) _
              have EDG := Lib.hid (heap_alloc_new wr (.cells #[.int .i64 f, .int .i64 t', .int .i64 co] 48))
              have OW2 := Lib.hid (HOW.out.alloc (.cells #[.int .i64 f, .int .i64 t', .int .i64 co] 48))
              have B2 := Lib.hid (BQ.out.alloc BQ.out.size (.cells #[.int .i64 f, .int .i64 t', .int .i64 co] 48))
              have zv := BQ.out.size
              obtain ⟨be, hbe⟩ : ∃ be, be = wr.heap.size := ⟨_, rfl⟩
              clear hnx he HOW BQ hAl HL
              go_upto_region 12 with fail
              rw [← hbe] at EDG ⊢
              clear hcf hct hcc hbw hbB
              generalize wr.alloc (.cells #[.int .i64 f, .int .i64 t', .int .i64 co] 48) = w5 at EDG OW2 B2 ⊢
              have e0 := blk_cell EDG.out 0
              have e1 := blk_cell EDG.out 1
              have e2 := blk_cell EDG.out 2
              simp only [List.getElem?_toArray, List.getElem?_cons_zero, List.getElem?_cons_succ] at e0 e1 e2
              have zE := lt_of_block EDG.out
              have z5 := B2.out.size
              clear hbe zv
              by_cases hft : (f, t') = ((u : Int), (v : Int))
              · injection hft with hfu htv
                subst hfu htv
                have hown := OW2.out
                go_wp2_with (at_builtin; go_must (refine wpList_push _ rfl (.tmp 42) (.tmp 45) _ rfl wv.heap.size 3 i0 (.int .i64 0) 1 8 ci Try.underlying29 hi hz0 hz1 hz2 rfl (by decide) _ L m HLM.out rfl (hown.alloc _) w5.heap.size 1 co rfl (Go.Proofs.Ytjebckehmmbkbaa.TwinP.newsF rfl) (fun _ _ => one_ci _ _) (by omega) (by omega) (by simp; omega) ?_; intro A7 c7 w7 hown7 hgrow7 hat7; have OW7 := Lib.hid hown7; have B7 := Lib.hid ((B2.out.alloc z5 (.cells #[.int .i64 co] 3)).grown hgrow7 (by simp; omega) hown.lo); clear hown7 hgrow7 hat7))
                go_roundw
                case rel => exact ⟨k + 1, A7, m + 1, c7, L ++ [co], by omega, by go_num, rfl, Lib.hid (by rw [HNX.out, if_pos rfl]), Lib.hid (by have := HLM.out; simp; omega), by omega, OW7, B7⟩
                case measure => simp [intOf]; omega
              · have HN2 : Hid (cs (l.take (k + 1)) (u : Int) (v : Int) = L) := Lib.hid (by rw [HNX.out, if_neg hft, List.append_nil])
                by_cases hfu : f = (u : Int)
                · have htv : (t' == (v : Int)) = false := by rw [beq_eq_false_iff_ne]; exact fun e => hft (by rw [hfu, e])
                  subst hfu
                  clear hft HNX
                  go_wp2
                  go_roundw
                  case rel => exact ⟨k + 1, A1, m, c1, L, by omega, by go_num, rfl, Lib.hid HN2.out.symm, HLM, by omega, OW2, B2⟩
                  case measure => simp [intOf]; omega
                · have hfu2 : (f == (u : Int)) = false := by rw [beq_eq_false_iff_ne]; exact hfu
                  clear hft HNX hfu
                  go_wp2
                  go_roundw
                  case rel => exact ⟨k + 1, A1, m, c1, L, by omega, by go_num, rfl, Lib.hid HN2.out.symm, HLM, by omega, OW2, B2⟩
                  case measure => simp [intOf]; omega
            · obtain rfl : k = l.length := by omega
              have hL := HL.out
              rw [List.take_length] at hL
              obtain ⟨A', c', hv1, hmc, _⟩ := HOW.out.form
              injection hv1 with hv1 hv2 hv3
              subst hv1 hv3
              rw [← hv2] at hmc
              have hmc2 : m ≤ c1 := hmc
              have hm6 : m ≤ 600 := by omega
              have BN := BV.out.trans (BQ.out.mono (by have := (HK.out _ BV.out).2.2.1; omega))
              have ks := sort_int A1 m c1 wv.heap.size L wr HLM.out HOW.out (by omega) BQ.out.size
              subst hL
              have KS := Lib.hid ks
              have HZV : Hid (w.heap.size + 1 ≤ wv.heap.size) := Lib.hid (HK.out _ BV.out).2.2.1
              have BNH := Lib.hid BN
              have BQ2 := BQ
              clear ks HOW hmc hv2 BN
              go_wp2_with fail
              refine KS.out.mono ?_
              rintro e w6 ⟨rfl, slM, hb6⟩
              have BQ6 := Lib.hid (BQ2.out.trans hb6)
              have b6 := BV.out.trans (BQ6.out.mono HZV.out)
              obtain ⟨kc, hkc⟩ : ∃ kc, (prs p ++ prs q).count ((u : Int), (v : Int)) = kc := ⟨_, rfl⟩
              have KS2 := Lib.hid (KST.out w6 u v kc b6 hkc)
              have hnext := osum_next (n := n) (l := l) hkc
              rw [HOU.out] at hnext
              have hml : (ms l u v).length = m := by rw [ms_len]; exact HLM.out
              rw [hml] at hnext
              obtain ⟨mm, hmm⟩ : ∃ mm, min m kc = mm := ⟨_, rfl⟩
              rw [hmm] at hnext
              have HNEXT := Lib.hid hnext
              have HTB := Lib.hid (fun i => take_bd HC.out h6 (u : Int) (v : Int) i)
              have hmc3 : mm ≤ c1 := by omega
              have hmm3 : mm ≤ m := by omega
              have hmin : (if (kc : Int) < (m : Int) then (kc : Int) else (m : Int)) = (mm : Int) := by split <;> omega
              have hmin2 : (if kc < m then (kc : Int) else (m : Int)) = (mm : Int) := by split <;> omega
              have hmin3 : min (m : Int) (kc : Int) = (mm : Int) := by omega
              have hml2 : mm ≤ (ms l u v).length := by omega
              have sl7 : Sl (w6.alloc (.cells #[.slice (some ⟨ba, oa, none⟩) na ca, .slice (some ⟨bb, ob, none⟩) nb cb] 29)) w6.heap.size 1 ci A1 (ms l u v) := slM.keep ((Below.refl _ _).alloc (Nat.le_refl _) _) (Nat.le_refl _)
              have b7 := b6.alloc (by have := BQ6.out.size; have := HZV.out; omega) (.cells #[.slice (some ⟨ba, oa, none⟩) na ca, .slice (some ⟨bb, ob, none⟩) nb cb] 29)
              have z67 : w6.heap.size ≤ (w6.alloc (.cells #[.slice (some ⟨ba, oa, none⟩) na ca, .slice (some ⟨bb, ob, none⟩) nb cb] 29)).heap.size := by simp
              have SL7 := Lib.hid (sl7.more z67)
              have B7 := Lib.hid b7
              clear slM hb6 BQ6 b6 hkc hnext hml hmm sl7 b7 z67 KS BQ2 BNH
              go_wp2_with fail
              refine KS2.out.mono ?_
              rintro e w7 ⟨rfl, HW7⟩
              have hw7 := HW7.out
              subst hw7
              clear HW7 KS2
              generalize w6.alloc (.cells #[.slice (some ⟨ba, oa, none⟩) na ca, .slice (some ⟨bb, ob, none⟩) nb cb] 29) = w7 at SL7 B7 ⊢
              go_wp2
              go_loopw [62, 7] (fun s s7 wq => ∃ i : Nat, i ≤ mm ∧ s = .int .i64 i ∧ s7 = .int .i64 (ou + ((ms l u v).take i).sum) ∧ Hid (w7 = wq)) (fun s _ _ => mm - (intOf s).toNat)
              case atStart => exact ⟨0, Nat.zero_le _, rfl, by simp, Lib.hid rfl⟩
              case round =>
                obtain ⟨i, hi2, rfl, rfl, HW⟩ := hrel
                have hw := HW.out
                subst hw
                clear HW
                by_cases him : i < mm
                · have hil : i < (ms l u v).length := by omega
                  obtain ⟨b', o', rfl, hb', hcl⟩ := SL7.out (by omega)
                  have cx := hcl i hil 0 (by decide)
                  rw [Nat.mul_one, Nat.add_zero] at cx
                  have hts : ((ms l u v).take (i + 1)).sum = ((ms l u v).take i).sum + (ms l u v)[i] := by
                    rw [List.take_succ_eq_append_getElem hil, List.sum_append]
                    simp
                  have t1 := HTB.out i
                  have t2 := HTB.out (i + 1)
                  have HTS := Lib.hid hts
                  generalize (ms l u v)[i] = x at cx hts HTS
                  have cx2 : w7.cell? ⟨b', o' + i, none⟩ = some (.int .i64 x) := cx
                  rw [hts] at t2
                  generalize ((ms l u v).take i).sum = sm at t1 t2 HTS hts ⊢
                  have hwx : IntKind.i64.wrap (ou + sm + x) = ou + sm + x := IntWalk.i64_in _ (by omega)
                  have him2 : (i : Int) < (mm : Int) := by omega
                  clear cx hcl hts t1 t2 hil
                  go_wp2
                  go_roundw
                  case rel => exact ⟨i + 1, by omega, by go_num, by rw [HTS.out, Int.add_assoc], Lib.hid (by trivial)⟩
                  case measure => simp [intOf]; omega
                · obtain rfl : i = mm := by omega
                  rw [HNEXT.out]
                  obtain ⟨o2, ho2⟩ : ∃ o2, osum n l p q u (v + 1) = o2 := ⟨_, rfl⟩
                  have HO2 := Lib.hid ho2
                  rw [ho2]
                  clear ho2 hmin hmin2 hmin3
                  go_wp2
                  go_roundw
                  case rel => exact ⟨v + 1, by omega, by go_num, by rw [HO2.out], B7⟩
                  case measure => simp [intOf]; omega
        · have hvn2 : v = n := by omega
          have hrow := osum_row n l p q u
          rw [← hvn2] at hrow
          rw [show osum n l p q u v = osum n l p q u n by rw [hvn2], osum_row]
          obtain ⟨o2, ho2⟩ : ∃ o2, osum n l p q (u + 1) 0 = o2 := ⟨_, rfl⟩
          have HO2 := Lib.hid ho2
          rw [ho2]
          have hvn3 : ¬ ((v : Int) < (n : Int)) := by omega
          clear ho2 hrow hvn2
          go_wp2
          go_roundw
          case rel => exact ⟨u + 1, by omega, by go_num, by rw [HO2.out], BV⟩
          case measure => simp [intOf]; omega
    · have hun2 : u = n := by omega
      rw [show osum n l p q u 0 = osum n l p q n 0 by rw [hun2], osum_all]
      obtain ⟨o2, ho2⟩ : ∃ o2, ctwo n l p q = o2 := ⟨_, rfl⟩
      have HO2 := Lib.hid ho2
      have hun3 : ¬ ((u : Int) < (n : Int)) := by omega
      have HF := Lib.hid (HK.out _ BU.out).2.2.2.2.2.2
      rw [ho2]
      clear ho2 hun2
      go_wp2
      go_ret
      exact ⟨by rw [HO2.out]; rfl, HF.out⟩
end Go.Proofs.Ytjebckehmmbkbaa.TwinA
