/- The walks of heur.least, heur.bound and heur.Of. -/
import Derived.Test.YtdpjbjgecmnmnaaHeurMarks
import Derived.Test.YtdpjbjgecmnmnaaHeurBound
namespace Go.Proofs.Ytdpjbjgecmnmnaa.Heur
open Go.RowKit Go.Proofs.Ytdpjbjgecmnmnaa NetLaw BellLaw DijkLaw HeurLaw Go.Proofs.Ytdpjbjgecmnmnaa.Net Go.Proofs.Ytdpjbjgecmnmnaa.Dijk Go.Proofs.Ytdpjbjgecmnmnaa.Std
set_option linter.unusedSimpArgs false
set_option linter.unusedVariables false
theorem max0_if (x : Int) : (if 0 < x then x else 0) = max 0 x := by omega
theorem least_any (a b : Int) (w : World) (ha : 0 ≤ a ∧ a ≤ 1099511627776) (hb : 0 ≤ b ∧ b ≤ 1099511627776) : Calls Try.prog 84 #[.int .i64 a, .int .i64 b] w fun e w' => e = .returned (.int .i64 (lst a b)) ∧ w' = w := by
  obtain ⟨a0, a1⟩ := ha
  obtain ⟨b0, b1⟩ := hb
  by_cases h1 : a = 1099511627776
  · have hl : lst a b = 0 := by unfold lst far; rw [if_pos h1]
    rw [hl]
    have hd : (a == 1099511627776) = true := by rw [beq_iff_eq]; exact h1
    clear hl h1
    go_enter Try.func84, Try.ntmps84
    go_wp2
    go_ret
    exact ⟨rfl, rfl⟩
  · have hd : (a == 1099511627776) = false := by rw [beq_eq_false_iff_ne]; exact h1
    by_cases h2 : b = 1099511627776
    · have hl : lst a b = 1099511627776 := by unfold lst far; rw [if_neg h1, if_pos h2]
      rw [hl]
      have hd2 : (b == 1099511627776) = true := by rw [beq_iff_eq]; exact h2
      clear hl h1 h2
      go_enter Try.func84, Try.ntmps84
      go_wp2
      go_ret
      exact ⟨rfl, rfl⟩
    · have hd2 : (b == 1099511627776) = false := by rw [beq_eq_false_iff_ne]; exact h2
      have hl : lst a b = max 0 (b - a) := by unfold lst far; rw [if_neg h1, if_neg h2]
      rw [hl]
      clear hl h1 h2
      by_cases h3 : a < b
      · have hm : max 0 (b - a) = b - a := by omega
        rw [hm]
        clear hm
        go_enter Try.func84, Try.ntmps84
        go_wp2
        go_ret
        exact ⟨rfl, rfl⟩
      · have hm : max 0 (b - a) = 0 := by omega
        rw [hm]
        clear hm
        go_enter Try.func84, Try.ntmps84
        go_wp2
        go_ret
        exact ⟨rfl, rfl⟩

set_option maxRecDepth 100000 in
set_option maxHeartbeats 4000000 in
theorem bound_any (n : Nat) (base : Nat) (A1 A2 : Option Addr) (m c1 c2 : Nat) (R1 R2 : List Nat) (D1 D2 : List (List Int)) (v t : Nat) (w : World) (h1 : Tb w base n A1 m c1 R1 D1) (h2 : Tb w base n A2 m c2 R2 D2) (hm : m ≤ 4) (hv : v < n) (ht : t < n) (hn : n ≤ 64)
    (hb : ∀ i, i < m → ∀ u : Nat, u < n → (0 ≤ dg (D1.getD i []) u ∧ dg (D1.getD i []) u ≤ 1099511627776) ∧ 0 ≤ dg (D2.getD i []) u ∧ dg (D2.getD i []) u ≤ 1099511627776) :
    Calls Try.prog 52 #[.agg #[.slice A1 m c1, .slice A2 m c2], .int .i64 v, .int .i64 t] w fun e w' => e = .returned (.int .i64 (bdl D1 D2 v t m)) ∧ Below w.heap.size w w' := by
  have hw0 : Below w.heap.size w (w.alloc (.cells #[.slice A1 m c1, .slice A2 m c2] 75)) := (Below.refl _ _).alloc (Nat.le_refl _) _
  have k1 := h1.keep hw0
  have k2 := h2.keep hw0
  have hbx := heap_alloc_new w (.cells #[.slice A1 m c1, .slice A2 m c2] 75)
  have K1 := Lib.hid k1
  have K2 := Lib.hid k2
  have HBX := Lib.hid hbx
  have HB := Lib.hid hb
  clear k1 k2 hbx hb h1 h2
  go_enter Try.func52, Try.ntmps52
  go_wp2
  go_loopw [7, 12] (fun s7 s wr => ∃ k : Nat, k ≤ m ∧ s = .int .i64 k ∧ s7 = .int .i64 (bdl D1 D2 v t k) ∧ ∃ q, wr = (w.alloc (.cells #[.slice A1 m c1, .slice A2 m c2] 75)).drewN q) (fun _ s _ => m - (intOf s).toNat)
  case atStart => exact ⟨0, Nat.zero_le _, rfl, rfl, 0, rfl⟩
  case round =>
    obtain ⟨k, hk, rfl, rfl, q, rfl⟩ := hrel
    have hbw : Below w.heap.size w ((w.alloc (.cells #[.slice A1 m c1, .slice A2 m c2] 75)).drewN q) := below_drewN hw0 q
    have hb0 : Below (w.alloc (.cells #[.slice A1 m c1, .slice A2 m c2] 75)).heap.size (w.alloc (.cells #[.slice A1 m c1, .slice A2 m c2] 75)) ((w.alloc (.cells #[.slice A1 m c1, .slice A2 m c2] 75)).drewN q) := below_drewN (Below.refl _ _) q
    have kk1 := K1.out.keep hb0
    have kk2 := K2.out.keep hb0
    have hbk := blk_below HBX.out hb0 (by simp)
    generalize hW : ((w.alloc (.cells #[.slice A1 m c1, .slice A2 m c2] 75)).drewN q) = W at *
    have b0 := blk_cell hbk 0
    have b1 := blk_cell hbk 1
    simp only [List.getElem?_toArray, List.getElem?_cons_zero, List.getElem?_cons_succ] at b0 b1
    have HW := Lib.hid hW
    clear hb0 hbk hW
    by_cases hlt : k < m
    · obtain ⟨g1, S1, rfl, hg1, hS1, e1, r1⟩ := kk1.at_ hlt hv
      obtain ⟨g2, S2, rfl, hg2, hS2, e2, r2⟩ := kk2.at_ hlt hv
      have x1 := r1 v hv
      have x2 := r1 t ht
      have x3 := r2 v hv
      have x4 := r2 t ht
      obtain ⟨y1, y3⟩ := HB.out k hlt v hv
      obtain ⟨y2, y4⟩ := HB.out k hlt t ht
      have hst : bdl D1 D2 v t (k + 1) = max (max (bdl D1 D2 v t k) (lst (dg (D1.getD k []) v) (dg (D1.getD k []) t))) (lst (dg (D2.getD k []) t) (dg (D2.getD k []) v)) := rfl
      have l1 := fun W => least_any (dg (D1.getD k []) v) (dg (D1.getD k []) t) W y1 y2
      have l2 := fun W => least_any (dg (D2.getD k []) t) (dg (D2.getD k []) v) W y4 y3
      have L1 := Lib.hid l1
      have L2 := Lib.hid l2
      have HST := Lib.hid hst
      generalize lst (dg (D1.getD k []) v) (dg (D1.getD k []) t) = z1 at *
      generalize lst (dg (D2.getD k []) t) (dg (D2.getD k []) v) = z2 at *
      generalize bdl D1 D2 v t k = z0 at *
      generalize dg (D1.getD k []) v = u1 at *
      generalize dg (D1.getD k []) t = u2 at *
      generalize dg (D2.getD k []) v = u3 at *
      generalize dg (D2.getD k []) t = u4 at *
      have hz : (k : Int) < (m : Int) := by omega
      have hz2 : (v : Int) < (n : Int) := by omega
      have hz3 : (t : Int) < (n : Int) := by omega
      clear kk1 kk2 r1 r2 hst l1 l2 y1 y2 y3 y4
      go_wp2
      go_quiet ((go_at_call 84; first | (with_reducible exact Calls.quiet_of_same (L1.out _)) | (with_reducible exact Calls.quiet_of_same (L2.out _))))
      go_wp2
      have hmx : (if (if z0 < z1 then z1 else z0) < z2 then z2 else if z0 < z1 then z1 else z0) = max (max z0 z1) z2 := by
        split <;> split <;> omega
      have HMX := Lib.hid hmx
      clear hmx
      go_roundw
      case rel => exact ⟨k + 1, by omega, by go_num, by rw [HST.out, HMX.out], q + nq, by rw [← HW.out]; first | rfl | exact World.drewN_drewN _ _ _⟩
      case measure => simp [intOf]; omega
    · obtain rfl : k = m := by omega
      clear kk1 kk2
      go_wp2
      go_ret
      exact ⟨rfl, hbw⟩

/-- what Of answers of right arguments -/
def OfSays (n : Nat) (l : List E) (ms : List Int) (t : Nat) (w : World) (e : Ending) (w' : World) : Prop :=
  ∃ A' c' D1 D2, e = .returned (.tuple #[.slice A' n c', .int .i64 0]) ∧ Own w' w.heap.size 3 1 ci (.slice A' n c') (bls n D1 D2 t ms.length n) ∧ HeurLaw.Lm n l ms D1 D2 ∧ Below w.heap.size w w'
theorem infoIO : (Try.prog.info? 3).map (fun i => (i.zero, i.size, i.bytes)) = some (some (.int .i64 0), 1, 8) := by kernel_rfl

set_option maxRecDepth 100000 in
set_option maxHeartbeats 8000000 in
theorem of_yes (n : Nat) (A : Option Addr) (c : Nat) (l : List E) (Am : Option Addr) (cm : Nat) (ms : List Int) (t : Nat) (w : World) (hl : Sl w w.heap.size 3 ce A l) (hm : Sl w w.heap.size 1 ci Am ms) (hg : NetLaw.Good n l) (hc : ∀ e ∈ l, 1 ≤ e.2.2) (h4 : ms.length ≤ 4) (hr : ∀ v ∈ ms, 0 ≤ v ∧ v < n) (ht : t < n) :
    Calls Try.prog 18 #[.agg #[.int .i64 n, .slice A l.length c], .slice Am ms.length cm, .int .i64 t] w fun e w' => OfSays n l ms t w e w' := by
  obtain ⟨i0, hi, hz0, hz1, hz2⟩ := info_parts infoIO
  have hN := hg.hi
  have hlen := hg.len
  have hw0 : Below w.heap.size w (w.alloc (.cells #[.int .i64 n, .slice A l.length c] 24)) := (Below.refl _ _).alloc (Nat.le_refl _) _
  have hz0' : w.heap.size ≤ (w.alloc (.cells #[.int .i64 n, .slice A l.length c] 24)).heap.size := by simp
  have box0 := heap_alloc_new w (.cells #[.int .i64 n, .slice A l.length c] 24)
  have km := fun W h h' => marks_yes n A c l Am cm ms W h h' hg hc h4 hr
  have kl := fun W A' h h' => Dijk.look_any n A c l A' 1 1 [(t : Int)] W h h' rfl (by omega) (by decide)
  rw [look_good hg hc (ps := [(t : Int)]) (by intro v hv; simp at hv; omega)] at kl
  have KM := Lib.hid km
  have KL := Lib.hid kl
  have BOX0 := Lib.hid box0
  have HSL0 := Lib.hid hl
  have HSM0 := Lib.hid hm
  clear km kl box0 hl hm hg hc hr
  go_enter Try.func18, Try.ntmps18
  go_wp2_with fail
  refine (KM.out _ ((HSL0.out.keep hw0 (Nat.le_refl _)).more hz0') ((HSM0.out.keep hw0 (Nat.le_refl _)).more hz0')).mono ?_
  rintro e w1 ⟨A1, c1, R1, D1, A2, c2, R2, D2, rfl, T1, T2, hsh, hb1⟩
  obtain ⟨m, hmm⟩ : ∃ m, ms.length = m := ⟨_, rfl⟩
  have HMM := Lib.hid hmm
  have H1 := hw0.trans (hb1.mono hz0')
  have hbox1 := blk_below BOX0.out hb1 (by simp)
  have hLm : HeurLaw.Lm n l ms D1 D2 := hsh
  rw [hmm] at T1 T2 h4 ⊢
  have hX : Below w1.heap.size w1 (w1.alloc (.cells #[.slice A1 m c1, .slice A2 m c2] 75)) := (Below.refl _ _).alloc (Nat.le_refl _) _
  have tbx := heap_alloc_new w1 (.cells #[.slice A1 m c1, .slice A2 m c2] 75)
  have H2 := H1.trans (hX.mono H1.size)
  have hsl2 := ((HSL0.out.keep H2 (Nat.le_refl _)).more H2.size)
  have hY : Below (w1.alloc (.cells #[.slice A1 m c1, .slice A2 m c2] 75)).heap.size (w1.alloc (.cells #[.slice A1 m c1, .slice A2 m c2] 75)) ((w1.alloc (.cells #[.slice A1 m c1, .slice A2 m c2] 75)).alloc (.cells #[.int .i64 t] 3)) := (Below.refl _ _).alloc (Nat.le_refl _) _
  have hZ := hX.trans (hY.mono hX.size)
  have q0 := blk_cell hbox1 0
  have q1 := blk_cell hbox1 1
  simp only [List.getElem?_toArray, List.getElem?_cons_zero, List.getElem?_cons_succ] at q0 q1
  have hzw := lt_of_block hbox1
  have kk := KL.out ((w1.alloc (.cells #[.slice A1 m c1, .slice A2 m c2] 75)).alloc (.cells #[.int .i64 t] 3)) (some ⟨w1.heap.size + 1, 0, none⟩) ((hsl2.keep hY (Nat.le_refl _)).more hY.size) (sl_new' (by decide) (w1.alloc (.cells #[.slice A1 m c1, .slice A2 m c2] 75)) #[.int .i64 t] 3 [(t : Int)] (by simp) rfl)
  have KK := Lib.hid kk
  have T1h := Lib.hid ((T1.mono hz0').keep hZ)
  have T2h := Lib.hid ((T2.mono hz0').keep hZ)
  have TBX := Lib.hid (blk_alloc tbx (.cells #[.int .i64 t] 3))
  have BOX1 := Lib.hid (blk_below hbox1 hZ hzw)
  have H3 := H1.trans (hZ.mono H1.size)
  have HLM := Lib.hid hLm
  clear kk T1 T2 hsh hb1 hbox1 hLm hX tbx H2 hsl2 hY hmm KM KL BOX0 hZ H1
  go_wp2_with fail
  refine KK.out.mono ?_
  generalize ((w1.alloc (.cells #[.slice A1 m c1, .slice A2 m c2] 75)).alloc (.cells #[.int .i64 t] 3)) = w3 at *
  rintro e w4 ⟨rfl, hb4⟩
  have H4 := H3.trans (hb4.mono H3.size)
  have T14 := Lib.hid (T1h.out.keep hb4)
  have T24 := Lib.hid (T2h.out.keep hb4)
  have tb4 := blk_below TBX.out hb4 (lt_of_block TBX.out)
  have bx4 := blk_below BOX1.out hb4 (lt_of_block BOX1.out)
  have p0 := blk_cell bx4 0
  simp only [List.getElem?_toArray, List.getElem?_cons_zero, List.getElem?_cons_succ] at p0
  have TB4 := Lib.hid tb4
  have hzT : w1.heap.size < w4.heap.size := lt_of_block tb4
  clear hb4 tb4 bx4 T1h T2h TBX BOX1 H3 q0 q1 KK
  go_wp2
  go_loopw [11, 31] (fun s11 s wr => ∃ (k : Nat) (A' : Option Addr) (c' : Nat), k ≤ n ∧ s = .int .i64 k ∧ s11 = .slice A' k c' ∧ Own wr w4.heap.size 3 1 ci (.slice A' k c') (bls n D1 D2 t m k) ∧ Below w4.heap.size w4 wr) (fun _ s _ => n - (intOf s).toNat)
  case atStart => exact ⟨0, none, 0, Nat.zero_le _, rfl, rfl, Own.nil_, Below.refl _ _⟩
  case round =>
    clear p0
    obtain ⟨k, A', c', hk, rfl, rfl, own, hB⟩ := hrel
    by_cases hlt : k < n
    · have t1 := T14.out.keep hB
      have t2 := T24.out.keep hB
      have htb := blk_below TB4.out hB hzT
      have b0 := blk_cell htb 0
      have b1 := blk_cell htb 1
      simp only [List.getElem?_toArray, List.getElem?_cons_zero, List.getElem?_cons_succ] at b0 b1
      have hbd : ∀ i, i < m → ∀ u : Nat, u < n → (0 ≤ dg (D1.getD i []) u ∧ dg (D1.getD i []) u ≤ 1099511627776) ∧ 0 ≤ dg (D2.getD i []) u ∧ dg (D2.getD i []) u ≤ 1099511627776 := fun i hi u hu => by
        obtain ⟨s1, s2⟩ := HLM.out i (by rw [HMM.out]; exact hi)
        exact ⟨s1.lo u (by omega) (by omega), s2.lo u (by omega) (by omega)⟩
      have kb := bound_any n _ A1 A2 m c1 c2 R1 R2 D1 D2 k t wr t1 t2 h4 hlt ht (by omega) hbd
      have hst := bls_snoc (n := n) (t := (t : Int)) D1 D2 m k
      have hpl := bls_len (n := n) (t := (t : Int)) D1 D2 m k
      have hdb := bdl_bd (v := (k : Int)) HLM.out ⟨by omega, (by omega : (t : Int) < n)⟩ ⟨by omega, by omega⟩ m (by rw [HMM.out]; exact Nat.le_refl _)
      generalize bdl D1 D2 (k : Int) (t : Int) m = z at *
      have KB := Lib.hid kb
      have HST := Lib.hid hst
      have HPL := Lib.hid hpl
      have HO := Lib.hid own
      clear kb hst hpl t1 t2 htb hbd own hdb
      go_wp2_with fail
      refine KB.out.mono ?_
      rintro e w6 ⟨rfl, hb6⟩
      have hB6 := hB.trans (hb6.mono hB.size)
      have own6 := (HO.out.keep hb6).alloc (.cells #[.int .i64 z] 3)
      have hz6 := hB6.size
      have HLO := Lib.hid own6.lo
      clear hb6 b0 b1
      go_wp2_with (at_builtin; refine wpList_push _ rfl (.tmp 34) (.tmp 39) _ rfl w4.heap.size 3 i0 (.int .i64 0) 1 8 ci Try.underlying25 hi hz0 hz1 hz2 rfl (by decide) _ (bls n D1 D2 t m k) k HPL.out rfl own6 w6.heap.size 1 z rfl news1 (fun _ _ => one_ci _ _) (by omega) (by omega) (by simp; omega) ?_; intro A3 c3 w8 hown3 hgrow3 hat3; rw [← HST.out] at hown3; have hB3 := (hB6.alloc hz6 (.cells #[.int .i64 z] 3)).grown hgrow3 (by simp; omega) HLO.out; have HOWN3 := Lib.hid hown3; clear hgrow3 hat3 hown3)
      go_roundw
      case rel => exact ⟨k + 1, A3, c3, by omega, by go_num, rfl, HOWN3.out, hB3⟩
      case measure => simp [intOf]; omega
    · obtain rfl : k = n := by omega
      have HO := Lib.hid (own.mono H4.size)
      have H5 := H4.trans (hB.mono H4.size)
      clear own
      go_wp2
      go_ret2
      refine ⟨A', c', D1, D2, rfl, ?_, HLM.out, H5⟩
      rw [HMM.out]
      exact HO.out
end Go.Proofs.Ytdpjbjgecmnmnaa.Heur
