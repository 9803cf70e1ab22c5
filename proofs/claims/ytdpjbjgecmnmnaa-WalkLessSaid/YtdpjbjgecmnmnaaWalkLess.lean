/- For every net and walk: WalkLess answers true (a walk without its loops leads from and to the same places, comes to none twice, and costs no more), and the arguments read as before. No condition. -/
import Derived.Test.YtdpjbjgecmnmnaaRows
import Derived.Test.YtdpjbjgecmnmnaaOpen
import Derived.Test.YtdpjbjgecmnmnaaCutWalks
import Derived.Test.YtdpjbjgecmnmnaaWalkCost
import Derived.Test.YtdpjbjgecmnmnaaDijkWalks
import Derived.Test.YtdpjbjgecmnmnaaStdCI
import Derived.SizedLaws
namespace Go.Proofs.Ytdpjbjgecmnmnaa.WalkLessLaw
open Go.ChangeShapes Go.WideShapes Go.ChangeAt Go.RowKit Go.Proofs.Ytdpjbjgecmnmnaa NetLaw WalkLaw CutLaw Go.Proofs.Ytdpjbjgecmnmnaa.Net Go.Proofs.Ytdpjbjgecmnmnaa.Walk Go.Proofs.Ytdpjbjgecmnmnaa.Cut Go.Proofs.Ytdpjbjgecmnmnaa.Std
set_option linter.unusedSimpArgs false
set_option linter.unusedVariables false

theorem cut5 (W : World) (g : Nat) (h : Sl W W.heap.size 1 ci (some ⟨g, 0, none⟩) [1, 2, 3, 2, 4]) :
    Calls Try.prog 25 #[.slice (some ⟨g, 0, none⟩) 5 5] W fun e w' => ∃ A' c', e = .returned (.tuple #[.slice A' 3 c', .int .i64 0]) ∧ Own w' W.heap.size 3 1 ci (.slice A' 3 c') [1, 2, 4] ∧ Below W.heap.size W w' := by
  refine (cut_yes (some ⟨g, 0, none⟩) 5 [1, 2, 3, 2, 4] W h (fun z hz => by simp at hz; unfold I64; omega) (by decide) (by decide)).mono ?_
  rintro e w' ⟨A', c', h1, h2, h3⟩
  rw [show cut [1, 2, 3, 2, 4] = [1, 2, 4] by decide +kernel] at h1 h2
  exact ⟨A', c', h1, h2, h3⟩
theorem eq3 (W : World) (A A' : Option Addr) (c c' B B' : Nat) (h : Sl W B 1 ci A [1, 2, 4]) (h' : Sl W B' 1 ci A' [1, 2, 4]) : Calls Try.prog 19 #[.slice A 3 c, .slice A' 3 c'] W fun e w' => e = .returned (.bool true) ∧ ∃ k, w' = W.drewN k :=
  equal_int' A A' 3 3 c c' [1, 2, 4] [1, 2, 4] B B' W h h' rfl rfl (by decide) true (by simp)
/-- a cell of a list, by what stands there -/
theorem at_eq {w : World} {B : Nat} {A : Option Addr} {l : List Int} (h : Sl w B 1 ci A l) {k : Nat} {x : Int} (hx : l[k]? = some x) : ∃ b off, A = some ⟨b, off, none⟩ ∧ b < B ∧ w.cell? ⟨b, off + k, none⟩ = some (.int .i64 x) := by
  obtain ⟨hk, rfl⟩ := List.getElem?_eq_some_iff.1 hx
  exact h.atI hk
theorem sl_take {w : World} {B : Nat} {A : Option Addr} {l : List Int} (h : Sl w B 1 ci A l) (k : Nat) : Sl w B 1 ci A (l.take k) := by
  intro hl
  rw [List.length_take] at hl
  obtain ⟨b, off, hA, hb, hc⟩ := h (by omega)
  refine ⟨b, off, hA, hb, fun i hi j hj => ?_⟩
  rw [List.length_take] at hi
  have := hc i (by omega) j hj
  rw [this, List.getElem_take]

theorem nodup_take {l : List Int} (h : l.Nodup) {k : Nat} (hk : k < l.length) : l[k] ∉ l.take k := fun hm => by
  have e : l = l.take k ++ l[k] :: l.drop (k + 1) := by rw [← List.drop_eq_getElem_cons hk, List.take_append_drop]
  rw [e, List.nodup_append] at h
  exact h.2.2 _ hm _ (List.mem_cons_self ..) rfl

set_option maxRecDepth 100000 in
set_option maxHeartbeats 4000000 in
theorem walk (w : World) (N : Int) (A : Option Addr) (c : Nat) (l : List E) (hA : Arg w 3 ce A c l) (Ap : Option Addr) (cp' : Nat) (p : List Int) (hAp : Arg w 1 ci Ap cp' p) (hi64 : ∀ z ∈ p, I64 z) :
    Calls Try.prog 7 #[.agg #[.int .i64 N, .slice A l.length c], .slice Ap p.length cp'] w fun e w' => e = .returned (.bool true) ∧ Below w.heap.size w w' := by
  have hs := hA.sl
  have hll : l.length ≤ 9223372036854775807 := Nat.le_trans hA.cap hA.max
  have hsp := hAp.sl
  have hlp : p.length ≤ 9223372036854775807 := Nat.le_trans hAp.cap hAp.max
  clear hA hAp
  have hw0 : Below w.heap.size w (w.alloc (.cells #[.int .i64 N, .slice A l.length c] 24)) := (Below.refl _ _).alloc (Nat.le_refl _) _
  by_cases hlen : p.length = 0 ∨ 100 < p.length
  · have kc := fun W => cut_no Ap cp' p W hlp hlen
    have KC := Lib.hid kc
    clear kc hlen hi64
    go_enter Try.func7, Try.ntmps7
    go_wp2_with fail
    refine (cut5 _ _ (sl_new' (by decide) (w.alloc (.cells #[.int .i64 N, .slice A l.length c] 24)) #[.int .i64 1, .int .i64 2, .int .i64 3, .int .i64 2, .int .i64 4] 3 _ (by simp) rfl)).mono ?_
    rintro e w1 ⟨A1, c1, rfl, own1, hb1⟩
    have B1 : Below (w.heap.size + 1) (w.alloc (.cells #[.int .i64 N, .slice A l.length c] 24)) w1 := ((Below.refl _ _).alloc (by simp) (.cells #[.int .i64 1, .int .i64 2, .int .i64 3, .int .i64 2, .int .i64 4] 3)).trans (hb1.mono (by simp))
    have Z1 : w.heap.size + 1 ≤ w1.heap.size := by have := hb1.size; simp at this; omega
    clear hb1
    go_wp2_with fail
    refine (eq3 _ _ _ _ _ _ _ (own1.alloc _).sl.2 (sl_new' (by decide) w1 #[.int .i64 1, .int .i64 2, .int .i64 4] _ _ rfl rfl)).mono ?_
    rintro e w2 ⟨rfl, n2, rfl⟩
    have B3 := below_drewN (B1.alloc Z1 (.cells #[.int .i64 1, .int .i64 2, .int .i64 4] 3)) n2
    have Z3 : w.heap.size + 1 ≤ ((w1.alloc (.cells #[.int .i64 1, .int .i64 2, .int .i64 4] 3)).drewN n2).heap.size := by simp; omega
    generalize ((w1.alloc (.cells #[.int .i64 1, .int .i64 2, .int .i64 4] 3)).drewN n2) = w3 at B3 Z3 ⊢
    clear own1 B1 Z1
    have H3 := hw0.trans (B3.mono (Nat.le_succ _))
    obtain ⟨cc3, _⟩ := keepAt B3 (Nat.lt_succ_self _)
    have q0 := cc3 0
    have q1 := cc3 1
    simp at q0 q1
    clear cc3
    go_wp2_with fail
    refine (KC.out _).mono ?_
    rintro e w4 ⟨x, hx, rfl, rfl⟩
    have hne : (x != 0) = true := by rw [bne_iff_ne]; exact hx
    clear hx
    go_wp2
    go_ret
    exact ⟨rfl, H3⟩
  · have h1 : 1 ≤ p.length := by omega
    have h2 : p.length ≤ 100 := by omega
    have kc := fun W h => cut_yes Ap cp' p W h hi64 h1 h2
    have hpne : p ≠ [] := fun e => by rw [e] at h1; simp at h1
    have hq1 : 1 ≤ (cut p).length := by have := cut_ne hpne; cases h : cut p with | nil => exact absurd h this | cons _ _ => simp
    have hq2 : (cut p).length ≤ 100 := Nat.le_trans (cut_len p) h2
    have hqi : ∀ z ∈ cut p, I64 z := fun z hz => hi64 z (cut_sub hz)
    have hhd : (cut p)[0]? = p[0]? := by rw [← List.head?_eq_getElem?, ← List.head?_eq_getElem?]; exact cut_head p
    have hlast : (cut p)[(cut p).length - 1]? = p[p.length - 1]? := by rw [← List.getLast?_eq_getElem?, ← List.getLast?_eq_getElem?]; exact cut_last p
    have hcc : cut (cut p) = cut p := cut_same (cut_nodup p)
    have hnd := cut_nodup p
    have hcost : (WalkLaw.cost N l p).2 = 0 → (WalkLaw.cost N l (cut p)).2 = 0 ∧ (Dijk.pos N l = 0 → (WalkLaw.cost N l (cut p)).1 ≤ (WalkLaw.cost N l p).1) := fun h => by
      obtain ⟨a, b⟩ := cost_cut h
      exact ⟨a, fun hp => b fun e he => by have := (Dijk.pos_zero hp).2 e he; omega⟩
    generalize hq : cut p = q at *
    have kc2 := fun (A' : Option Addr) c' W h => cut_yes A' c' q W h hqi hq1 hq2
    rw [hcc] at kc2
    have k1 := fun W h h' => cost_any N A c l Ap cp' p W h h' hll hlp
    have k2 := fun (A' : Option Addr) c' W h h' => cost_any N A c l A' c' q W h h' hll (by omega)
    have kp := fun W h => Dijk.pos_any N A c l W h hll
    have hb1 := @cost_bd N l p
    have hb2 := @cost_bd N l q
    have KC := Lib.hid kc
    have KC2 := Lib.hid kc2
    have K1 := Lib.hid k1
    have K2 := Lib.hid k2
    have KP := Lib.hid kp
    have HHD := Lib.hid hhd
    have HLAST := Lib.hid hlast
    have HND := Lib.hid hnd
    have HCOST := Lib.hid hcost
    obtain ⟨m, hm⟩ : ∃ m, q.length = m := ⟨_, rfl⟩
    obtain ⟨lp, hlp'⟩ : ∃ lp, p.length = lp := ⟨_, rfl⟩
    have HM := Lib.hid hm
    have HLP := Lib.hid hlp'
    rw [hm] at hq1 hq2
    rw [hlp'] at h1 h2 ⊢
    obtain ⟨m, rfl⟩ : ∃ m', m = m' + 1 := ⟨m - 1, by omega⟩
    obtain ⟨lp, rfl⟩ : ∃ lp', lp = lp' + 1 := ⟨lp - 1, by omega⟩
    obtain ⟨x0, hx0⟩ : ∃ x0, p[0]? = some x0 := ⟨_, List.getElem?_eq_getElem (by omega)⟩
    obtain ⟨xl, hxl⟩ : ∃ xl, p[lp]? = some xl := ⟨_, List.getElem?_eq_getElem (by omega)⟩
    have HX0 := Lib.hid hx0
    have HXL := Lib.hid hxl
    clear kc kc2 k1 k2 kp hq hpne hqi hhd hlast hcc hnd hcost hlen hm hlp' hi64 hlp hx0 hxl
    go_enter Try.func7, Try.ntmps7
    go_wp2_with fail
    refine (cut5 _ _ (sl_new' (by decide) (w.alloc (.cells #[.int .i64 N, .slice A l.length c] 24)) #[.int .i64 1, .int .i64 2, .int .i64 3, .int .i64 2, .int .i64 4] 3 _ (by simp) rfl)).mono ?_
    rintro e w1 ⟨A1, c1, rfl, own1, hb1⟩
    have B1 : Below (w.heap.size + 1) (w.alloc (.cells #[.int .i64 N, .slice A l.length c] 24)) w1 := ((Below.refl _ _).alloc (by simp) (.cells #[.int .i64 1, .int .i64 2, .int .i64 3, .int .i64 2, .int .i64 4] 3)).trans (hb1.mono (by simp))
    have Z1 : w.heap.size + 1 ≤ w1.heap.size := by have := hb1.size; simp at this; omega
    clear hb1
    go_wp2_with fail
    refine (eq3 _ _ _ _ _ _ _ (own1.alloc _).sl.2 (sl_new' (by decide) w1 #[.int .i64 1, .int .i64 2, .int .i64 4] _ _ rfl rfl)).mono ?_
    rintro e w2 ⟨rfl, n2, rfl⟩
    have B3 := below_drewN (B1.alloc Z1 (.cells #[.int .i64 1, .int .i64 2, .int .i64 4] 3)) n2
    have Z3 : w.heap.size + 1 ≤ ((w1.alloc (.cells #[.int .i64 1, .int .i64 2, .int .i64 4] 3)).drewN n2).heap.size := by simp; omega
    generalize ((w1.alloc (.cells #[.int .i64 1, .int .i64 2, .int .i64 4] 3)).drewN n2) = w3 at B3 Z3 ⊢
    clear own1 B1 Z1
    have H3 := hw0.trans (B3.mono (Nat.le_succ _))
    obtain ⟨cc3, _⟩ := keepAt B3 (Nat.lt_succ_self _)
    have q0 := cc3 0
    have q1 := cc3 1
    simp at q0 q1
    clear cc3
    go_wp2_with fail
    have kk := KC.out _ ((hsp.keep H3 (Nat.le_refl _)).more H3.size)
    rw [HLP.out] at kk
    rw [HM.out] at kk
    refine kk.mono ?_
    rintro e w4 ⟨A4, c4, rfl, own4, hb4⟩
    have B4 := B3.trans (hb4.mono Z3)
    have Z4 : w.heap.size + 1 ≤ w4.heap.size := by have := hb4.size; omega
    have H4 := hw0.trans (B4.mono (Nat.le_succ _))
    have OWN4 := Lib.hid own4
    obtain ⟨S, c4', hv, hS0, hS1, hcap, _⟩ := own4.some_ (by rw [HM.out]; omega)
    injection hv with hv hv2 hv3
    subst hv hv3
    have sl4 := own4.sl.2
    obtain ⟨b0, o0, hA, _, g0⟩ := at_eq sl4 (HHD.out.trans HX0.out)
    injection hA with hA
    injection hA with hA1 hA2
    subst hA1 hA2
    obtain ⟨b0, o0, hA, _, gl⟩ := at_eq sl4 (k := m) (x := xl) (by have := HLAST.out; rw [HM.out, HLP.out] at this; exact this.trans HXL.out)
    injection hA with hA
    injection hA with hA1 hA2
    subst hA1 hA2
    obtain ⟨bp, op, rfl, hbp, f0⟩ := at_eq (hsp.keep H4 (Nat.le_refl _)) HX0.out
    obtain ⟨b0, o0, hA, _, fl⟩ := at_eq (hsp.keep H4 (Nat.le_refl _)) HXL.out
    injection hA with hA
    injection hA with hA1 hA2
    subst hA1 hA2
    rw [HM.out] at hcap
    simp only [Nat.zero_add, Nat.add_zero] at g0 gl f0
    clear q0 q1 hb4 own4 B3 Z3 H3
    obtain ⟨cc4, _⟩ := keepAt B4 (Nat.lt_succ_self _)
    have q0 := cc4 0
    have q1 := cc4 1
    simp at q0 q1
    have SL4 := Lib.hid sl4
    have d0 : ((m : Int) + 1 == 0) = false := by rw [beq_eq_false_iff_ne]; omega
    have d1 : (m : Int) + 1 - 1 = m := by omega
    have d2 : (lp : Int) + 1 - 1 = lp := by omega
    have d3 : IntKind.i64.wrap ((m : Int) + 1 - 1) = (m : Int) := by rw [d1]; exact IntWalk.i64_in _ (by omega)
    have d4 : IntKind.i64.wrap ((lp : Int) + 1 - 1) = (lp : Int) := by rw [d2]; exact IntWalk.i64_in _ (by omega)
    have d5 : (0 : Int) < (m : Int) + 1 := by omega
    have d6 : (0 : Int) < (lp : Int) + 1 := by omega
    have d7 : (m : Int) < (m : Int) + 1 := by omega
    have d8 : (lp : Int) < (lp : Int) + 1 := by omega
    clear cc4 sl4 hv2
    go_wp2
    go_quiet (fail)
    go_wp2
    have hB5 : Below w4.heap.size w4 (w4.drewN nq) := below_drewN (Below.refl _ _) _
    generalize (w4.drewN nq) = w5 at *
    have B5 := B4.trans (hB5.mono Z4)
    have H5 := H4.trans (hB5.mono H4.size)
    have z5 := hB5.size
    have SL5 := Lib.hid (SL4.out.keep hB5 (Nat.le_refl _))
    clear q0 q1 g0 gl f0 fl B4 H4 hB5 OWN4 SL4 d0 d3 d4 d6 d8
    obtain ⟨cc5, _⟩ := keepAt B5 (Nat.lt_succ_self _)
    have q0 := cc5 0
    have q1 := cc5 1
    simp at q0 q1
    clear cc5
    go_loopw [67] (fun i wr => ∃ k : Nat, k ≤ m + 1 ∧ i = .int .i64 k ∧ w5 = wr) (fun i _ => m + 1 - (intOf i).toNat)
    case atStart => exact ⟨0, Nat.zero_le _, rfl, rfl⟩
    case round =>
      obtain ⟨k, hk, rfl, rfl⟩ := hrel
      by_cases hlt : k < m + 1
      · have hkl : k < q.length := by rw [HM.out]; exact hlt
        obtain ⟨b0, o0, hA, _, hc⟩ := SL5.out.atI hkl
        injection hA with hA
        injection hA with hA1 hA2
        subst hA1 hA2
        have hnin : decide (q[k] ∈ q.take k) = false := decide_eq_false (nodup_take HND.out hkl)
        generalize q[k] = x at *
        have kin := contains_int (some ⟨S, 0, none⟩) c4 k (q.take k) x _ w5 (sl_take SL5.out k) (by rw [List.length_take]; omega) (by omega) false hnin
        have KIN := Lib.hid kin
        have e1 : (k : Int) ≤ (c4 : Int) := by omega
        have e2 : k ≤ c4 := by omega
        have e3 : (0 : Int) ≤ (k : Int) := by omega
        rw [Nat.zero_add] at hc
        clear kin hnin hkl
        go_wp2_with fail
        refine KIN.out.mono ?_
        rintro e w6 ⟨rfl, rfl⟩
        go_wp2
        go_roundw
        case rel => exact ⟨k + 1, by omega, by go_num, by trivial⟩
        case measure => simp [intOf]; omega
      · obtain rfl : k = m + 1 := by omega
        have kk := KC2.out (some ⟨S, 0, none⟩) c4 w5 (SL5.out.more z5)
        rw [HM.out] at kk
        have KK := Lib.hid kk
        clear kk hlt
        go_wp2_with fail
        refine KK.out.mono ?_
        rintro e w6 ⟨A6, c6, rfl, own6, hb6⟩
        have keq := equal_int' (some ⟨S, 0, none⟩) A6 (m + 1) (m + 1) c4 c6 q q _ _ w6 ((SL5.out.more z5).keep hb6 (Nat.le_refl _)) own6.sl.2 HM.out HM.out (by omega) true (by simp)
        have B6 := B5.trans (hb6.mono (Nat.le_trans Z4 z5))
        have H6 := H5.trans (hb6.mono H5.size)
        have SL6 := Lib.hid (((SL5.out.more z5).keep hb6 (Nat.le_refl _)).more hb6.size)
        have KEQ := Lib.hid keq
        clear keq q0 q1 own6 B5 hb6
        obtain ⟨cc6, _⟩ := keepAt B6 (Nat.lt_succ_self _)
        have q0 := cc6 0
        have q1 := cc6 1
        simp at q0 q1
        clear cc6
        go_wp2_with fail
        refine KEQ.out.mono ?_
        rintro e w7 ⟨rfl, n7, rfl⟩
        have hB7 : Below w6.heap.size w6 (w6.drewN n7) := below_drewN (Below.refl _ _) _
        generalize (w6.drewN n7) = w7 at *
        have B7 := B6.trans (hB7.mono (by have := B6.size; simp at this; omega))
        have H7 := H6.trans (hB7.mono H6.size)
        have SL7 := Lib.hid ((SL6.out.keep hB7 (Nat.le_refl _)).more hB7.size)
        have kk := K1.out w7 ((hs.keep H7 (Nat.le_refl _)).more H7.size) ((hsp.keep H7 (Nat.le_refl _)).more H7.size)
        rw [HLP.out] at kk
        have KK1 := Lib.hid kk
        clear kk q0 q1 B6 SL6 hB7 KEQ KK
        obtain ⟨cc7, _⟩ := keepAt B7 (Nat.lt_succ_self _)
        have q0 := cc7 0
        have q1 := cc7 1
        simp at q0 q1
        clear cc7
        obtain ⟨n1, hn1⟩ : ∃ n1, (WalkLaw.cost N l p).1 = n1 := ⟨_, rfl⟩
        obtain ⟨n2, hn2⟩ : ∃ n2, (WalkLaw.cost N l q).1 = n2 := ⟨_, rfl⟩
        have HN1 := Lib.hid hn1
        have HN2 := Lib.hid hn2
        clear hn1 hn2
        by_cases hc0 : (WalkLaw.cost N l p).2 = 0
        · obtain ⟨hcq, hle⟩ := HCOST.out hc0
          have kk := KK1.out
          rw [HN1.out, hc0] at kk
          have KK2 := Lib.hid kk
          have HLE := Lib.hid hle
          have HCQ := Lib.hid hcq
          clear kk hle hcq hc0
          go_wp2_with fail
          refine KK2.out.mono ?_
          rintro e w8 ⟨rfl, hb8⟩
          have B8 := B7.trans (hb8.mono (by have := B7.size; simp at this; omega))
          have H8 := H7.trans (hb8.mono H7.size)
          have kk := K2.out (some ⟨S, 0, none⟩) c4 w8 ((hs.keep H8 (Nat.le_refl _)).more H8.size) ((SL7.out.keep hb8 (Nat.le_refl _)).more hb8.size)
          rw [HM.out, HN2.out, HCQ.out] at kk
          have KK3 := Lib.hid kk
          clear kk q0 q1 B7 SL7 hb8 KK2
          obtain ⟨cc8, _⟩ := keepAt B8 (Nat.lt_succ_self _)
          have q0 := cc8 0
          have q1 := cc8 1
          simp at q0 q1
          clear cc8
          go_wp2_with fail
          refine KK3.out.mono ?_
          rintro e w9 ⟨rfl, hb9⟩
          have B9 := B8.trans (hb9.mono (by have := B8.size; simp at this; omega))
          have H9 := H8.trans (hb9.mono H8.size)
          clear q0 q1 B8 hb9 KK3
          obtain ⟨cc9, _⟩ := keepAt B9 (Nat.lt_succ_self _)
          have q0 := cc9 0
          have q1 := cc9 1
          simp at q0 q1
          clear cc9
          by_cases hle : n2 ≤ n1
          · have hd : decide (n2 ≤ n1) = true := decide_eq_true hle
            clear hb1 hb2
            go_wp2
            go_ret
            exact ⟨rfl, H9⟩
          · have hd : decide (n2 ≤ n1) = false := decide_eq_false hle
            have hpo : Dijk.pos N l ≠ 0 := fun h => hle (by rw [← HN1.out, ← HN2.out]; exact HLE.out h)
            have hne : (Dijk.pos N l != 0) = true := by rw [bne_iff_ne]; exact hpo
            have kk := KP.out w9 ((hs.keep H9 (Nat.le_refl _)).more H9.size)
            generalize Dijk.pos N l = er at *
            have KK4 := Lib.hid kk
            clear kk hpo hb1 hb2 hle
            go_wp2_with fail
            refine KK4.out.mono ?_
            rintro e w10 ⟨rfl, hb10⟩
            have H10 := H9.trans (hb10.mono H9.size)
            go_wp2
            go_ret
            exact ⟨rfl, H10⟩
        · have kk := KK1.out
          rw [HN1.out] at kk
          have hne : ((WalkLaw.cost N l p).2 != 0) = true := by rw [bne_iff_ne]; exact hc0
          generalize (WalkLaw.cost N l p).2 = er at *
          have KK2 := Lib.hid kk
          clear kk hc0
          go_wp2_with fail
          refine KK2.out.mono ?_
          rintro e w8 ⟨rfl, hb8⟩
          have H8 := H7.trans (hb8.mono H7.size)
          clear q0 q1
          go_wp2
          go_ret
          exact ⟨rfl, H8⟩

theorem own : ownKnob Try.prog.godebug = none := by kernel_rfl
theorem laidOut : laidOutB Try.prog = true := by kernel_rfl

set_option maxRecDepth 100000 in
theorem lifted (os : Os) (started : os.Started) (H : Type) (enc : TypeId × Value → H) :
    ReturnsInHanded {} Try.checked os 7 .any (Rows.walkLessSpec.pre6 enc Try.prog Try.f7 Rows.walkLessRow.domain false) (Rows.walkLessSpec.post enc Try.prog Try.f7 false true false false) := by
  refine returnsInHanded_of_change (C := Try.checked) own started (by kernel_rfl) Try.func7
    (ChangeSpec.witness6 (enc := enc) (C := Try.checked) false ⟨#[], #[.agg #[.int .i64 0, .slice none 0 0], .slice none 0 0], []⟩ 8 (by kernel_rfl) (by kernel_rfl) (by kernel_rfl) (by kernel_rfl)) ?_
  intro W base args ds gs before hval0 hW hcnd _
  have hval : ∀ (j : Nat) t v, Try.f7.params[j]? = some t → args[j]? = some v → Value.okWide Try.prog W .any base t v := hval0
  have hW' := hW
  obtain ⟨p, q, hA0, hV, rfl, hfz, hnd⟩ := hW
  have hA : DataW.TrodAll enc Try.prog W 0 (fun _ => true) true Try.f7.params.toList args.toList ds p := hA0
  rw [Try.params7] at hA hval
  obtain ⟨v0, vs0, d0, ds0, p0, q0, hargs, rfl, rfl, h0, r0⟩ := trodAll_cons hA
  obtain ⟨v1, vs1, d1, ds1, p1, q1, rfl, rfl, rfl, h1, r1⟩ := trodAll_cons r0
  obtain ⟨rfl, rfl, rfl⟩ := trodAll_nil r1
  obtain rfl : args = #[v0, v1] := by cases args; simp_all
  obtain ⟨rfl, rfl⟩ := trodVars_none hV
  obtain ⟨N0, A0, c0, l0, dd0, rfl, hN0, hG0, hb0, rfl, hd0⟩ := open_net Try.underlying24 (by kernel_rfl) (by kernel_rfl) Try.underlying3 Try.underlying22 Try.underlying60 (by kernel_rfl) (by kernel_rfl) Try.underlying3 Try.underlying3 Try.underlying3 (hval 0 24 v0 rfl rfl) h0
  obtain ⟨A1, c1, l1, rfl, hG1, hd1, hb1⟩ := open_sl1 Try.underlying25 Try.underlying3 (by kernel_rfl) (hval 1 25 v1 rfl rfl) h1
  refine (walk W N0 A0 c0 l0 hG0 A1 c1 l1 hG1 hb1).mono fun e W' ⟨he, hB⟩ => ?_
  subst he
  exact ⟨_, rfl, post_of_law laidOut rfl Try.underlying4 rfl (by intro t ht; rw [Try.params7] at ht; simp at ht; rcases ht with rfl | rfl <;> exact ⟨by kernel_rfl, of_decide_eq_true (by kernel_rfl)⟩) hW' rfl hB⟩

theorem holds : Rows.WalkLessSaid :=
  OpenClaim.holds_of_wide 7 Try.f7 rfl rfl rfl rfl rfl rfl rfl ⟨rfl, rfl, rfl, rfl, rfl⟩ rfl rfl rfl rfl rfl (by kernel_rfl) Try.func7 (by kernel_rfl)
    (of_decide_eq_true (by kernel_rfl)) (by unfold Func.isWrapper; first | (rw [if_pos (by decide +kernel)]; kernel_rfl) | (rw [if_neg (by decide +kernel)]; exact ⟨rfl, rfl⟩))
    (fun os started H enc _ => lifted os started H enc)
#print axioms holds
end Go.Proofs.Ytdpjbjgecmnmnaa.WalkLessLaw
