/- The walks of hier.Between and hier.Dist. -/
import Derived.Test.YtbgkkmcobijkgaaVHierAbs
import Derived.Test.YtbgkkmcobijkgaaVHeurBound
namespace Go.Proofs.Ytbgkkmcobijkgaa.Hier
open NetLaw hiding E
open Go.RowKit Go.Proofs.Ytbgkkmcobijkgaa BellLaw DijkLaw GridLaw GroundLaw HierLaw Go.Proofs.Ytbgkkmcobijkgaa.Grid Go.Proofs.Ytbgkkmcobijkgaa.Net Go.Proofs.Ytbgkkmcobijkgaa.NetOf Go.Proofs.Ytbgkkmcobijkgaa.Flow Go.Proofs.Ytbgkkmcobijkgaa.Std Go.Proofs.Ytbgkkmcobijkgaa.Dijk
set_option linter.unusedSimpArgs false
set_option linter.unusedVariables false
/-- a cost, or none -/
def CostSays (P : Int → Prop) (w : World) (e : Ending) (w' : World) : Prop :=
  ∃ x, Hid (P x) ∧ 0 ≤ x ∧ Hid (Below w.heap.size w w') ∧ ((x = far ∧ e = .returned (.tuple #[.int .i64 0, .int .i64 5])) ∨ (x < far ∧ e = .returned (.tuple #[.int .i64 x, .int .i64 0])))
/-- hier.Between's cost -/
def BtwP (n : Nat) (ins : List E) (a b : Nat) (x : Int) : Prop := ∃ D, Sh n a ins D ∧ dg D b = x
/-- hier.Dist's cost -/
def DistP (n : Nat) (all : List E) (a b : Nat) (x : Int) : Prop := (∀ D, Sh n a all D → dg D b = x) ∧ ∀ d, Wk all a b d → d < far → x ≤ d
theorem abs_le {N fr : Int} {all ins bts abs : List E3} {is : Int → Bool} {Dn : Int → List Int} {DA : List Int} (hA : Abs N ins bts abs is Dn) (hDA : Sh N fr abs DA) (hDn : ∀ a, 0 ≤ a → a < N → is a = true → Sh N a ins (Dn a)) (hpart : ∀ e ∈ all, e ∈ ins ∨ e ∈ bts)
    (hends : ∀ e ∈ all, 0 ≤ e.1 ∧ e.1 < N ∧ 0 ≤ e.2.1 ∧ e.2.1 < N) (hd : ∀ e ∈ bts, is e.1 = true ∧ is e.2.1 = true) (hc : ∀ e ∈ all, 0 ≤ e.2.2) (hf0 : 0 ≤ fr) (hf1 : fr < N) (hfi : is fr = true) {v d : Int} (t0 : 0 ≤ v) (t1 : v < N) (hti : is v = true) (hw : Wk all fr v d) (hdf : d < far) : dg DA v ≤ d := by
  have l2 := hDA.lo v t0 t1
  obtain ⟨_, x, ⟨x0, x1⟩, hx, hle⟩ := to_abs hA hDA hDn hpart hends hd hc hf0 hf1 hfi hw hdf
  have a0 := (hDA.lo x x0 x1).1
  have b0 := ((hDn x x0 x1 hx).lo v t0 t1).1
  by_cases hxe : x = v
  · subst hxe
    rw [(hDn _ x0 x1 hx).st] at hle
    omega
  · have := hDA.still _ (hA.has x v x0 x1 t0 t1 hx hti hxe (by omega)) (by simp only; omega)
    simp only at this
    omega

set_option maxRecDepth 100000 in
set_option maxHeartbeats 1000000 in
theorem between_no (W H k a b : Int) (A0 : Option Addr) (n c0 : Nat) (l : List Int) (w : World) (hn : l.length = n) (hl : Sl w w.heap.size 1 ci A0 l) (hlen : n ≤ 9223372036854775807) (hg : lk W H l k ≠ 0) :
    Calls Try.prog 31 #[.agg #[.int .i64 W, .int .i64 H, .slice A0 n c0], .int .i64 k, .int .i64 a, .int .i64 b] w fun e w' => e = .returned (.tuple #[.int .i64 0, .int .i64 (lk W H l k)]) ∧ Below w.heap.size w w' := by
  have hw0 : Below w.heap.size w (w.alloc (.cells #[.int .i64 W, .int .i64 H, .slice A0 n c0] 24)) := (Below.refl _ _).alloc (Nat.le_refl _) _
  have hbox := heap_alloc_new w (.cells #[.int .i64 W, .int .i64 H, .slice A0 n c0] 24)
  have key := look_any W H k A0 n c0 l _ hn ((hl.keep hw0 (Nat.le_refl _)).more hw0.size) hlen
  have g0 : (lk W H l k != 0) = true := by simp [hg]
  generalize lk W H l k = er at *
  have KEY := Lib.hid key
  clear key hg hl hn hbox
  go_enter Try.func31, Try.ntmps31
  go_wp2_with fail
  refine KEY.out.mono ?_
  rintro e w1 ⟨rfl, hb1⟩
  have B1 := hw0.trans (hb1.mono hw0.size)
  clear hb1
  go_wp2
  go_ret2
  exact ⟨rfl, B1⟩
set_option maxRecDepth 100000 in
set_option maxHeartbeats 1000000 in
theorem between_bad (W H k a b : Int) (A0 : Option Addr) (n c0 : Nat) (l : List Int) (w : World) (hn : l.length = n) (hl : Sl w w.heap.size 1 ci A0 l) (hlen : n ≤ 9223372036854775807) (hg : lk W H l k = 0) (hbad : ¬ ((0 ≤ a ∧ a < n) ∧ (0 ≤ b ∧ b < n))) :
    Calls Try.prog 31 #[.agg #[.int .i64 W, .int .i64 H, .slice A0 n c0], .int .i64 k, .int .i64 a, .int .i64 b] w fun e w' => e = .returned (.tuple #[.int .i64 0, .int .i64 1]) ∧ Below w.heap.size w w' := by
  have hw0 : Below w.heap.size w (w.alloc (.cells #[.int .i64 W, .int .i64 H, .slice A0 n c0] 24)) := (Below.refl _ _).alloc (Nat.le_refl _) _
  have hbox := heap_alloc_new w (.cells #[.int .i64 W, .int .i64 H, .slice A0 n c0] 24)
  have key := look_any W H k A0 n c0 l _ hn ((hl.keep hw0 (Nat.le_refl _)).more hw0.size) hlen
  rw [hg] at key
  have KEY := Lib.hid key
  have HBOX := Lib.hid hbox
  clear key hg hl hn hbox
  rcases (show a < 0 ∨ (0 ≤ a ∧ (n : Int) ≤ a) ∨ (0 ≤ a ∧ a < n ∧ b < 0) ∨ (0 ≤ a ∧ a < n ∧ 0 ≤ b ∧ (n : Int) ≤ b) from by omega) with h | h | h | h
  all_goals
    clear hbad
    go_enter Try.func31, Try.ntmps31
    go_wp2_with fail
    refine KEY.out.mono ?_
    rintro e w1 ⟨rfl, hb1⟩
    have B1 := hw0.trans (hb1.mono hw0.size)
    have q2 := blk_cell (blk_below HBOX.out hb1 (by simp)) 2
    simp only [List.getElem?_toArray, List.getElem?_cons_zero, List.getElem?_cons_succ] at q2
    clear hb1
    go_wp2
    go_ret2
    exact ⟨rfl, B1⟩

set_option maxRecDepth 100000 in
set_option maxHeartbeats 4000000 in
theorem between_yes (W H k : Int) (a b : Nat) (A0 : Option Addr) (n c0 : Nat) (l : List Int) (w : World) (hn : l.length = n) (hl : Sl w w.heap.size 1 ci A0 l) (hg : GGood W H l) (hk1 : 1 ≤ k) (hk8 : k ≤ 8) (ha : a < n) (hb : b < n) :
    Calls Try.prog 31 #[.agg #[.int .i64 W, .int .i64 H, .slice A0 n c0], .int .i64 k, .int .i64 a, .int .i64 b] w fun e w' => CostSays (BtwP n (inn W k (allM W H l n)) a b) w e w' := by
  have hsz := size_bd hg
  have hgood := ground_good hg
  have hpos := ground_pos hg
  rw [hn] at hsz hgood hpos
  have hlen : n ≤ 9223372036854775807 := by omega
  have hw0 : Below w.heap.size w (w.alloc (.cells #[.int .i64 W, .int .i64 H, .slice A0 n c0] 24)) := (Below.refl _ _).alloc (Nat.le_refl _) _
  have hbox := heap_alloc_new w (.cells #[.int .i64 W, .int .i64 H, .slice A0 n c0] 24)
  have key := look_any W H k A0 n c0 l _ hn ((hl.keep hw0 (Nat.le_refl _)).more hw0.size) hlen
  rw [lk_zero.2 ⟨hg, hk1, hk8⟩] at key
  have kw := fun W' h => within_any W H k A0 n c0 l W' hn h hg hk1 hk8
  have hig := inn_good (W := W) (k := k) hgood
  have hic : ∀ e ∈ inn W k (allM W H l n), 0 ≤ e.2.2 := fun e he => by have := hpos e (inn_sub he); omega
  generalize allM W H l n = all at *
  generalize hins : inn W k all = ins at *
  have kr := fun A c W' h => run_any n a A c ins W' h hig ha hic
  have KEY := Lib.hid key
  have KW := Lib.hid kw
  have KR := Lib.hid kr
  have HIN := Lib.hid hins
  have HBOX := Lib.hid hbox
  have HSL := Lib.hid hl
  clear key kw kr hins hbox hl hg hgood hpos hn hig hic
  go_enter Try.func31, Try.ntmps31
  go_wp2_with fail
  refine KEY.out.mono ?_
  rintro e w1 ⟨rfl, hb1⟩
  have B1 := hw0.trans (hb1.mono hw0.size)
  have hq := blk_below HBOX.out hb1 (by simp)
  have q0 := blk_cell hq 0
  have q1 := blk_cell hq 1
  have q2 := blk_cell hq 2
  simp only [List.getElem?_toArray, List.getElem?_cons_zero, List.getElem?_cons_succ] at q0 q1 q2
  have hs1 := (HSL.out.keep B1 (Nat.le_refl _)).more B1.size
  have HS1 := Lib.hid hs1
  clear hq hb1 hs1
  go_wp2_with fail
  refine (KW.out _ HS1.out).mono ?_
  rintro e w2 ⟨A4, c4, A5, c5, p4, p5, rfl, n4, n5, o4, o5, hb2⟩
  rw [HIN.out] at n4 o4
  have B2 := B1.trans (hb2.mono B1.size)
  have B3 := (B2.alloc B2.size (.cells #[.int .i64 n, .slice A4 p4 c4] 32)).alloc (by simp; have := B2.size; omega) (.cells #[.int .i64 n, .slice A5 p5 c5] 32)
  have sl4 := ((o4.alloc (.cells #[.int .i64 n, .slice A4 p4 c4] 32)).alloc (.cells #[.int .i64 n, .slice A5 p5 c5] 32)).sl.2
  have k3 := KR.out A4 c4 _ sl4
  rw [n4] at k3
  have K3 := Lib.hid k3
  have HB3 := Lib.hid B3
  clear n4 n5 o4 o5 hb2 B1 B2 B3 sl4 k3 q0 q1 q2 KW KEY KR HS1
  go_wp2_with fail
  refine K3.out.mono ?_
  rintro e w3 ⟨S, D, rfl, own3, hsh, hb3⟩
  have B4 := HB3.out.trans (hb3.mono HB3.out.size)
  have hdl := hsh.len
  have hDl : D.length = n := by omega
  obtain ⟨dc, _⟩ := own_at1 hDl own3 hb
  have hdg : dg D (b : Int) = D.getD b 0 := by rw [dg, Int.toNat_natCast]
  have hlo := hsh.lo b (by omega) (by omega)
  rw [hdg] at hlo
  have hfin : BtwP n ins a b (D.getD b 0) := ⟨D, hsh, hdg⟩
  have HF := Lib.hid hfin
  have HB4 := Lib.hid B4
  have hS4 := (own3.base_ S rfl).2
  generalize D.getD b 0 = x at *
  clear own3 hsh hb3 B4 hdl hDl hdg hfin
  have zb : (b : Int) < (n : Int) := by omega
  obtain ⟨hx0, hx1⟩ := hlo
  by_cases hx : x = far
  · have hx2 : x = 1099511627776 := hx
    subst hx2
    go_wp2
    go_ret2
    exact ⟨_, HF, by decide, HB4, .inl ⟨rfl, rfl⟩⟩
  · have hx2 : (x == 1099511627776) = false := beq_eq_false_iff_ne.2 hx
    have hx3 : x < far := by omega
    clear hx
    go_wp2
    go_ret2
    exact ⟨_, HF, hx0, HB4, .inr ⟨hx3, rfl⟩⟩

set_option maxRecDepth 100000 in
set_option maxHeartbeats 1000000 in
theorem dist_no (W H k a b : Int) (A0 : Option Addr) (n c0 : Nat) (l : List Int) (w : World) (hn : l.length = n) (hl : Sl w w.heap.size 1 ci A0 l) (hlen : n ≤ 9223372036854775807) (hg : lk W H l k ≠ 0) :
    Calls Try.prog 32 #[.agg #[.int .i64 W, .int .i64 H, .slice A0 n c0], .int .i64 k, .int .i64 a, .int .i64 b] w fun e w' => e = .returned (.tuple #[.int .i64 0, .int .i64 (lk W H l k)]) ∧ Below w.heap.size w w' := by
  have hw0 : Below w.heap.size w (w.alloc (.cells #[.int .i64 W, .int .i64 H, .slice A0 n c0] 24)) := (Below.refl _ _).alloc (Nat.le_refl _) _
  have hbox := heap_alloc_new w (.cells #[.int .i64 W, .int .i64 H, .slice A0 n c0] 24)
  have key := look_any W H k A0 n c0 l _ hn ((hl.keep hw0 (Nat.le_refl _)).more hw0.size) hlen
  have g0 : (lk W H l k != 0) = true := by simp [hg]
  generalize lk W H l k = er at *
  have KEY := Lib.hid key
  clear key hg hl hn hbox
  go_enter Try.func32, Try.ntmps32
  go_wp2_with fail
  refine KEY.out.mono ?_
  rintro e w1 ⟨rfl, hb1⟩
  have B1 := hw0.trans (hb1.mono hw0.size)
  clear hb1
  go_wp2
  go_ret2
  exact ⟨rfl, B1⟩
set_option maxRecDepth 100000 in
set_option maxHeartbeats 1000000 in
theorem dist_bad (W H k a b : Int) (A0 : Option Addr) (n c0 : Nat) (l : List Int) (w : World) (hn : l.length = n) (hl : Sl w w.heap.size 1 ci A0 l) (hlen : n ≤ 9223372036854775807) (hg : lk W H l k = 0) (hbad : ¬ ((0 ≤ a ∧ a < n) ∧ (0 ≤ b ∧ b < n))) :
    Calls Try.prog 32 #[.agg #[.int .i64 W, .int .i64 H, .slice A0 n c0], .int .i64 k, .int .i64 a, .int .i64 b] w fun e w' => e = .returned (.tuple #[.int .i64 0, .int .i64 1]) ∧ Below w.heap.size w w' := by
  have hw0 : Below w.heap.size w (w.alloc (.cells #[.int .i64 W, .int .i64 H, .slice A0 n c0] 24)) := (Below.refl _ _).alloc (Nat.le_refl _) _
  have hbox := heap_alloc_new w (.cells #[.int .i64 W, .int .i64 H, .slice A0 n c0] 24)
  have key := look_any W H k A0 n c0 l _ hn ((hl.keep hw0 (Nat.le_refl _)).more hw0.size) hlen
  rw [hg] at key
  have KEY := Lib.hid key
  have HBOX := Lib.hid hbox
  clear key hg hl hn hbox
  rcases (show a < 0 ∨ (0 ≤ a ∧ (n : Int) ≤ a) ∨ (0 ≤ a ∧ a < n ∧ b < 0) ∨ (0 ≤ a ∧ a < n ∧ 0 ≤ b ∧ (n : Int) ≤ b) from by omega) with h | h | h | h
  all_goals
    clear hbad
    go_enter Try.func32, Try.ntmps32
    go_wp2_with fail
    refine KEY.out.mono ?_
    rintro e w1 ⟨rfl, hb1⟩
    have B1 := hw0.trans (hb1.mono hw0.size)
    have q2 := blk_cell (blk_below HBOX.out hb1 (by simp)) 2
    simp only [List.getElem?_toArray, List.getElem?_cons_zero, List.getElem?_cons_succ] at q2
    clear hb1
    go_wp2
    go_ret2
    exact ⟨rfl, B1⟩

set_option maxRecDepth 100000 in
set_option maxHeartbeats 4000000 in
theorem dist_yes (W H k : Int) (a b : Nat) (A0 : Option Addr) (n c0 : Nat) (l : List Int) (w : World) (hn : l.length = n) (hl : Sl w w.heap.size 1 ci A0 l) (hg : GGood W H l) (hk1 : 1 ≤ k) (hk8 : k ≤ 8) (ha : a < n) (hb : b < n) :
    Calls Try.prog 32 #[.agg #[.int .i64 W, .int .i64 H, .slice A0 n c0], .int .i64 k, .int .i64 a, .int .i64 b] w fun e w' => CostSays (DistP n (allM W H l n) a b) w e w' := by
  have hsz := size_bd hg
  have hgood := ground_good hg
  have hpos := ground_pos hg
  rw [hn] at hsz hgood hpos
  have hlen : n ≤ 9223372036854775807 := by omega
  have hw0 : Below w.heap.size w (w.alloc (.cells #[.int .i64 W, .int .i64 H, .slice A0 n c0] 24)) := (Below.refl _ _).alloc (Nat.le_refl _) _
  have hbox := heap_alloc_new w (.cells #[.int .i64 W, .int .i64 H, .slice A0 n c0] 24)
  have key := look_any W H k A0 n c0 l _ hn ((hl.keep hw0 (Nat.le_refl _)).more hw0.size) hlen
  rw [lk_zero.2 ⟨hg, hk1, hk8⟩] at key
  have ka := fun At W' (h : Sl W' W'.heap.size 1 ci A0 l) ht => abstract_any W H k A0 n c0 l At 2 2 [(a : Int), (b : Int)] W' hn h hg hk1 hk8 rfl (by decide) ht (by intro v hv; simp only [List.mem_cons, List.not_mem_nil, or_false] at hv; omega)
  have hends : ∀ e ∈ allM W H l n, 0 ≤ e.1 ∧ e.1 < n ∧ 0 ≤ e.2.1 ∧ e.2.1 < n := hgood.ends
  have hcost : ∀ e ∈ allM W H l n, 0 ≤ e.2.2 ∧ e.2.2 ≤ 1000000000 := fun e he => by have := hpos e he; have := (hgood.cost e he).2; omega
  have hig := inn_good (W := W) (k := k) hgood
  have hic : ∀ e ∈ inn W k (allM W H l n), 1 ≤ e.2.2 := fun e he => hpos e (inn_sub he)
  generalize allM W H l n = all at *
  have KEY := Lib.hid key
  have KA := Lib.hid ka
  have HE := Lib.hid hends
  have HC := Lib.hid hcost
  have HIG := Lib.hid hig
  have HIC := Lib.hid hic
  have HBOX := Lib.hid hbox
  have HSL := Lib.hid hl
  clear key ka hends hcost hbox hl hg hgood hpos hn hig hic
  go_enter Try.func32, Try.ntmps32
  go_wp2_with fail
  refine KEY.out.mono ?_
  rintro e w1 ⟨rfl, hb1⟩
  have B1 := hw0.trans (hb1.mono hw0.size)
  have hq := blk_below HBOX.out hb1 (by simp)
  have q0 := blk_cell hq 0
  have q1 := blk_cell hq 1
  have q2 := blk_cell hq 2
  simp only [List.getElem?_toArray, List.getElem?_cons_zero, List.getElem?_cons_succ] at q0 q1 q2
  have hB2 := B1.alloc B1.size (.cells #[.int .i64 a, .int .i64 b] 3)
  have hs2 := (HSL.out.keep hB2 (Nat.le_refl _)).more hB2.size
  have hn2 : Sl (w1.alloc (.cells #[.int .i64 a, .int .i64 b] 3)) (w1.alloc (.cells #[.int .i64 a, .int .i64 b] 3)).heap.size 1 ci (some ⟨w1.heap.size, 0, none⟩) [(a : Int), (b : Int)] := sl_new' (by decide) _ #[.int .i64 a, .int .i64 b] _ _ rfl rfl
  have HS2 := Lib.hid hs2
  have HN2 := Lib.hid hn2
  have HB2 := Lib.hid hB2
  clear hq hb1 hs2 hn2 hB2 KEY
  go_wp2_with fail
  refine (KA.out _ _ HS2.out HN2.out).mono ?_
  rintro e w2 ⟨A4, p4, c4, L, rfl, n4, hp4, o4, HAB, hb2⟩
  have B3 := HB2.out.trans (hb2.mono HB2.out.size)
  have hwide : Wide n L ∧ ∀ e ∈ L, 0 ≤ e.2.2 := by
    obtain ⟨Dn, hA, hD⟩ := HAB.out
    have hcc : ∀ e ∈ L, (0 ≤ e.1 ∧ e.1 < n ∧ 0 ≤ e.2.1 ∧ e.2.1 < n) ∧ (0 ≤ e.2.2 ∧ e.2.2 ≤ 1000000000) := fun e he => by
      rcases hA.edge e he with hb | ⟨his, ⟨a0, a1⟩, ⟨b0, b1⟩, h1, h2⟩
      · exact ⟨HE.out e (btw_sub hb), HC.out e (btw_sub hb)⟩
      · have hs := hD e.1 a0 a1 his
        have h3 := hs.lo e.2.1 b0 b1
        obtain ⟨y, hy⟩ := Int.eq_ofNat_of_zero_le a0
        rw [hy] at hs
        have h4 := HeurLaw.sh_bd hs HIG.out HIC.out ⟨b0, b1⟩ (by rw [← hy, h1]; exact h2)
        rw [← hy] at h4
        exact ⟨⟨a0, a1, b0, b1⟩, by omega, by omega⟩
    exact ⟨⟨by omega, by omega, fun e he => (hcc e he).1, fun e he => by have := (hcc e he).2; omega⟩, fun e he => (hcc e he).2.1⟩
  have sl4 := o4.sl.2
  have k3 := run_wide n a A4 c4 L _ sl4 hwide.1 ha hwide.2
  rw [n4] at k3
  have K3 := Lib.hid k3
  have HB3 := Lib.hid B3
  have hsame : ∀ DA, Sh n a L DA → DistP n all a b (dg DA b) := fun DA hDA => by
    obtain ⟨Dn, hA, hDn⟩ := HAB.out
    refine ⟨fun D hD => ?_, fun d hw hdf => abs_le hA hDA hDn (fun e he => mem_parts he) HE.out (fun e he => by have := isD_ends he; rw [this.1, this.2]; exact ⟨rfl, rfl⟩) (fun e he => (HC.out e he).1) (by omega) (by omega) (by simp) (by omega) (by omega) (by simp) hw hdf⟩
    exact (same_cost hA hD hDA hDn (fun e he => mem_parts he) (fun e he => inn_sub he) (fun e he => btw_sub he) HE.out (fun e he => by have := isD_ends he; rw [this.1, this.2]; exact ⟨rfl, rfl⟩) (fun e he => (HC.out e he).1) (by omega) (by omega) (by simp) (by omega) (by omega) (by simp)).symm
  have HSAME := Lib.hid hsame
  clear n4 hp4 o4 hb2 B1 B3 sl4 k3 hwide hsame HAB q0 q1 q2 KA HS2 HN2 HB2
  go_wp2_with fail
  refine K3.out.mono ?_
  rintro e w3 ⟨S, D, rfl, own3, hsh, hb3⟩
  have B4 := HB3.out.trans (hb3.mono HB3.out.size)
  have hdl := hsh.len
  have hDl : D.length = n := by omega
  obtain ⟨dc, _⟩ := own_at1 hDl own3 hb
  have hdg : dg D (b : Int) = D.getD b 0 := by rw [dg, Int.toNat_natCast]
  have hlo := hsh.lo b (by omega) (by omega)
  rw [hdg] at hlo
  have hfin : DistP n all a b (D.getD b 0) := by rw [← hdg]; exact HSAME.out D hsh
  have HF := Lib.hid hfin
  have HB4 := Lib.hid B4
  have hS4 := (own3.base_ S rfl).2
  generalize D.getD b 0 = x at *
  clear own3 hsh hb3 B4 hdl hDl hdg hfin
  have zb : (b : Int) < (n : Int) := by omega
  obtain ⟨hx0, hx1⟩ := hlo
  by_cases hx : x = far
  · have hx2 : x = 1099511627776 := hx
    subst hx2
    go_wp2
    go_ret2
    exact ⟨_, HF, by decide, HB4, .inl ⟨rfl, rfl⟩⟩
  · have hx2 : (x == 1099511627776) = false := beq_eq_false_iff_ne.2 hx
    have hx3 : x < far := by omega
    clear hx
    go_wp2
    go_ret2
    exact ⟨_, HF, hx0, HB4, .inr ⟨hx3, rfl⟩⟩
end Go.Proofs.Ytbgkkmcobijkgaa.Hier
