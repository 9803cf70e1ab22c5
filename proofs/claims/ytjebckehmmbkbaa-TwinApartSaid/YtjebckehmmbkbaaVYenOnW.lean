/- The walk of yen.onward. -/
import Derived.Test.YtjebckehmmbkbaaVYenOn
import Derived.Test.YtjebckehmmbkbaaVDijkRun
import Derived.Test.YtjebckehmmbkbaaVStdCI
import Derived.Test.YtjebckehmmbkbaaVQueue
import Derived.Test.YtjebckehmmbkbaaVWalkCost
import Derived.BigRegion
import Derived.BigQuiet
import Derived.Deep.CutRange
namespace Go.Proofs.Ytjebckehmmbkbaa.Yen
open Go.RowKit Go.Proofs.Ytjebckehmmbkbaa NetLaw BellLaw DijkLaw WalkLaw YenLaw YenOn Go.Proofs.Ytjebckehmmbkbaa.Net Go.Proofs.Ytjebckehmmbkbaa.Std
set_option linter.unusedSimpArgs false
set_option linter.unusedVariables false
theorem infoEdgeY : (Try.prog.info? 48).map (fun i => (i.zero, i.size, i.bytes)) = some (some (.agg #[.int .i64 0, .int .i64 0, .int .i64 0]), 3, 24) := by kernel_rfl
theorem infoIntY : (Try.prog.info? 3).map (fun i => (i.zero, i.size, i.bytes)) = some (some (.int .i64 0), 1, 8) := by kernel_rfl
theorem blk_grown {w w' : World} {g : Nat} {o : Obj} {r : Option Nat} (h : w.heap[g]? = some o) (hg : w.grownBy w' r) (hr : r ≠ some g) : w'.heap[g]? = some o :=
  (hg.block g (lt_of_block h) (fun e => hr e.symm)).trans h
/-- a net's box that grows -/
structure Gb (wa w : World) (X n : Nat) (A : Option Addr) (p c : Nat) (L : List E) : Prop where
  box : w.heap[X]? = some (.cells #[.int .i64 n, .slice A p c] 24 (0, 0))
  own : Own w X 48 3 ce (.slice A p c) L
  len : L.length = p
  lo : Below X wa w
section
variable {wa w w' : World} {X n p c : Nat} {A : Option Addr} {L : List E}
theorem Gb.keep (h : Gb wa w X n A p c L) (hb : Below w.heap.size w w') : Gb wa w' X n A p c L :=
  ⟨blk_below h.box hb (lt_of_block h.box), h.own.keep hb, h.len, h.lo.trans (hb.mono (Nat.le_of_lt (lt_of_block h.box)))⟩
theorem Gb.push {A' : Option Addr} {c' : Nat} {e : E} (h : Gb wa w X n A p c L) (hg : w.grownBy w' (Value.slice A p c).ownBlock) (ho : Own w' X 48 3 ce (.slice A' (p + 1) c') (L ++ [e])) : Gb wa (w'.setCell ⟨X, 1, none⟩ (.slice A' (p + 1) c')) X n A' (p + 1) c' (L ++ [e]) := by
  have hb := blk_grown h.box hg (h.own.ne_ h.box (by decide))
  have hX := lt_of_block h.box
  refine ⟨blk_set hb 1 _, ho.setCell (ho.ne_ hb (by decide)) _, by simp [h.len], ?_⟩
  exact (h.lo.grown hg (Nat.le_of_lt hX) (fun k hk => h.own.lo k hk)).setCell (p := ⟨X, 1, none⟩) (Nat.le_refl _) _
end
theorem rst_skip {b nt : List Int} {l : List E} {k : Nat} (h : k < l.length) (hs : okU b nt l[k].1 l[k].2.1 = false) : rst b nt (l.take (k + 1)) = rst b nt (l.take k) := by
  unfold rst
  rw [List.take_succ_eq_append_getElem h, List.filter_append, List.filter_cons, if_neg (by rw [hs]; decide), List.filter_nil, List.append_nil]
theorem rst_keep {b nt : List Int} {l : List E} {k : Nat} (h : k < l.length) (hs : okU b nt l[k].1 l[k].2.1 = true) : rst b nt (l.take (k + 1)) = rst b nt (l.take k) ++ [l[k]] := by
  unfold rst
  rw [List.take_succ_eq_append_getElem h, List.filter_append, List.filter_cons, if_pos hs, List.filter_nil]
theorem rst_len (b nt : List Int) (l : List E) : (rst b nt l).length ≤ l.length := List.length_filter_le _ _
theorem rst_good {n : Nat} {b nt : List Int} {l : List E} (hg : NetLaw.Good n l) : NetLaw.Good n ((rst b nt l).map bk) := by
  have hm : ∀ e ∈ (rst b nt l).map bk, ∃ x ∈ l, e = bk x := fun e he => by
    obtain ⟨x, hx, rfl⟩ := List.mem_map.1 he
    exact ⟨x, (List.mem_filter.1 hx).1, rfl⟩
  refine ⟨hg.lo, hg.hi, ?_, fun e he => ?_, fun e he => ?_⟩
  · rw [List.length_map]; exact Nat.le_trans (rst_len b nt l) hg.len
  · obtain ⟨x, hx, rfl⟩ := hm e he
    have := hg.ends x hx
    exact ⟨this.2.2.1, this.2.2.2, this.1, this.2.1⟩
  · obtain ⟨x, hx, rfl⟩ := hm e he
    exact hg.cost x hx
theorem Gy.len {n t : Nat} {rs : List E} {D : List Int} (h : Rs n t rs D) {r : List Int} {a : Int} (hg : Gy n t rs D (prs (a :: r))) (ha : 0 ≤ a ∧ a < n) : r.length + 1 ≤ n := by
  obtain ⟨g1, g2⟩ := hg.below h
  have hr : ∀ x ∈ a :: r, 0 ≤ x ∧ x < n := fun x hx => by
    rcases List.mem_cons.1 hx with rfl | hx
    · exact ha
    · exact (g1 x hx).2.1
  have h1 : ((a :: r).map Int.toNat).Nodup := by
    rw [List.Nodup, List.pairwise_map]
    refine List.Pairwise.imp_of_mem (fun {x y} hx hy hxy e => hxy ?_) g2
    have := hr x hx
    have := hr y hy
    omega
  have h2 := FloydLaw.nodup_len h1 (k := n) (fun m hm => by
    rw [List.mem_map] at hm
    obtain ⟨x, hx, rfl⟩ := hm
    have := hr x hx
    omega)
  rw [List.length_map, List.length_cons] at h2
  exact h2
theorem Gy.snoc {n t : Nat} {rs : List E} {D : List Int} {r : List Int} {a v x : Int} (hg : Gy n t rs D (prs (a :: r))) (hl : (a :: r).getLast? = some v) (hx : x = nx n rs D v) (hv : v ≠ t) (hv0 : 0 ≤ v ∧ v < n) (hf : dg D v < far) : Gy n t rs D (prs (a :: (r ++ [x]))) ∧ (a :: (r ++ [x])).getLast? = some x := by
  refine ⟨fun q hq => ?_, by rw [← List.cons_append, List.getLast?_append]; rfl⟩
  rw [← List.cons_append, WayLaw.prs_snoc hl x] at hq
  rcases List.mem_append.1 hq with h | h
  · exact hg q h
  · rw [List.mem_singleton] at h
    subst h
    exact ⟨hx, hv, hv0, hf⟩
/-- what onward answers -/
def OnSays (n s t : Nat) (l : List E) (b nt : List Int) (w : World) (e : Ending) (w' : World) : Prop :=
  Below w.heap.size w w' ∧
  ((∃ A c p, e = .returned (.tuple #[.agg #[.slice A p.length c, .int .i64 (wt l p)], .bool true]) ∧ Own w' w.heap.size 3 1 ci (.slice A p.length c) p ∧ Hid (Cd n l s t b (· ∈ nt) p ∧ ∀ q, Cd n l s t b (· ∈ nt) q → leY l p q)) ∨
   (e = .returned (.tuple #[.agg #[.slice none 0 0, .int .i64 0], .bool false]) ∧ Hid (∀ q, ¬ Cd n l s t b (· ∈ nt) q)))

set_option maxRecDepth 100000 in
set_option maxHeartbeats 16000000 in
theorem onward_any (n s t : Nat) (A : Option Addr) (c : Nat) (l : List E) (Ab : Option Addr) (kb cb : Nat) (b0 : List Int) (a : Nat) (An : Option Addr) (kn cn : Nat) (nt : List Int) (w : World)
    (hl : Sl w w.heap.size 3 ce A l) (hb : Sl w w.heap.size 1 ci Ab (b0 ++ [(a : Int)])) (hkb : b0.length = kb) (hcb : kb + 1 ≤ cb) (hnt : Sl w w.heap.size 1 ci An nt) (hkn : nt.length = kn) (hkn6 : kn ≤ 1000)
    (hg : NetLaw.Good n l) (hc1 : ∀ e ∈ l, 1 ≤ e.2.2) (ht : t < n) (hhd : (b0 ++ [(a : Int)]).head? = some (s : Int)) (hnd : (b0 ++ [(a : Int)]).Nodup) (hrg : ∀ v ∈ b0 ++ [(a : Int)], 0 ≤ v ∧ v < n) (hok : okP l (prs (b0 ++ [(a : Int)])) = true) :
    Calls Try.prog 17 #[.agg #[.int .i64 n, .slice A l.length c], .slice Ab (kb + 1) cb, .int .i64 t, .slice An kn cn] w fun e w' => OnSays n s t l (b0 ++ [(a : Int)]) nt w e w' := by
  obtain ⟨i0, hi, hz0, hz1, hz2⟩ := info_parts infoEdgeY
  obtain ⟨j0, hj, hy0, hy1, hy2⟩ := info_parts infoIntY
  have hn64 := hg.hi
  have hlen := hg.len
  have hbl : kb + 1 ≤ 64 := by
    have := Smp.len (n := n) (l := l) (s := s) (t := a) (p := b0 ++ [(a : Int)]) ⟨hhd, by simp, hnd, hrg, hok⟩
    rw [List.length_append, List.length_singleton, hkb] at this
    have h64 : (n : Int) ≤ 64 := hn64
    omega
  obtain ⟨b, hbe⟩ : ∃ b, b = b0 ++ [(a : Int)] := ⟨_, rfl⟩
  have hla : b.getLastD 0 = a := by rw [hbe]; simp [List.getLastD_eq_getLast?]
  have hdl : b.dropLast = b0 := by rw [hbe]; simp
  have hbn : b.length = kb + 1 := by rw [hbe]; simp [hkb]
  have hag := hrg a (by simp)
  have han : a < n := by omega
  have hbc : ∀ W, Below w.heap.size w W → Sl W W.heap.size 1 ci Ab b := fun W hW => by rw [hbe]; exact (hb.keep hW (Nat.le_refl _)).more hW.size
  have hbp : ∀ W, Below w.heap.size w W → Sl W W.heap.size 1 ci Ab b0 := fun W hW => by
    intro hl
    obtain ⟨bb, off, hA, hB, hc⟩ := hbc W hW (by rw [hbn]; omega)
    refine ⟨bb, off, hA, hB, fun i hi j hj => ?_⟩
    have h1 := hc i (by rw [hbn]; omega) j hj
    rw [h1]
    congr 2
    subst hbe
    rw [List.getElem_append_left hi]
  have hcl : ∀ W, Below w.heap.size w W → Sl W W.heap.size 3 ce A l := fun W hW => (hl.keep hW (Nat.le_refl _)).more hW.size
  have hcn : ∀ W, Below w.heap.size w W → Sl W W.heap.size 1 ci An nt := fun W hW => (hnt.keep hW (Nat.le_refl _)).more hW.size
  have hxb : ∃ gb ob, Ab = some ⟨gb, ob, none⟩ ∧ gb < w.heap.size ∧ w.cell? ⟨gb, ob + kb, none⟩ = some (.int .i64 a) := by
    obtain ⟨bb, off, hA, hB, hc⟩ := hb (by simp)
    have h1 := hc kb (by simp [hkb]) 0 (by omega)
    refine ⟨bb, off, hA, hB, ?_⟩
    rw [Nat.mul_one, Nat.add_zero] at h1
    rw [h1, List.getElem_append_right (by omega)]
    simp [ci]
  obtain ⟨gb, ob, rfl, hgb, hxa⟩ := hxb
  have HCB := Lib.hid hbc
  have HCP := Lib.hid hbp
  have HCL := Lib.hid hcl
  have HCN := Lib.hid hcn
  have HLA := Lib.hid hla
  have HDL := Lib.hid hdl
  have HBN := Lib.hid hbn
  have HBE := Lib.hid hbe
  have HND := Lib.hid hnd
  have HRG := Lib.hid hrg
  have HOK := Lib.hid hok
  have HHD := Lib.hid hhd
  have HG := Lib.hid hg
  have HC1 := Lib.hid hc1
  have HKB := Lib.hid hkb
  have HKN := Lib.hid hkn
  have hw1 : Below w.heap.size w (((w.alloc (.cells #[.int .i64 n, .slice A l.length c] 24)).alloc (.cells #[.slice none 0 0, .int .i64 0] 31)).alloc (.cells #[.int .i64 n, .slice none 0 0] 24)) := (((Below.refl _ _).alloc (Nat.le_refl _) _).alloc (by simp) _).alloc (by simp; omega) _
  have hQ := blk_alloc (blk_alloc (heap_alloc_new w (.cells #[.int .i64 n, .slice A l.length c] 24)) (.cells #[.slice none 0 0, .int .i64 0] 31)) (.cells #[.int .i64 n, .slice none 0 0] 24)
  have hR := blk_alloc (heap_alloc_new (w.alloc (.cells #[.int .i64 n, .slice A l.length c] 24)) (.cells #[.slice none 0 0, .int .i64 0] 31)) (.cells #[.int .i64 n, .slice none 0 0] 24)
  have hX := heap_alloc_new ((w.alloc (.cells #[.int .i64 n, .slice A l.length c] 24)).alloc (.cells #[.slice none 0 0, .int .i64 0] 31)) (.cells #[.int .i64 n, .slice none 0 0] 24)
  simp only [show (w.alloc (.cells #[.int .i64 n, .slice A l.length c] 24)).heap.size = w.heap.size + 1 by simp, show ((w.alloc (.cells #[.int .i64 n, .slice A l.length c] 24)).alloc (.cells #[.slice none 0 0, .int .i64 0] 31)).heap.size = w.heap.size + 1 + 1 by simp] at hR hX
  have hz1' : (((w.alloc (.cells #[.int .i64 n, .slice A l.length c] 24)).alloc (.cells #[.slice none 0 0, .int .i64 0] 31)).alloc (.cells #[.int .i64 n, .slice none 0 0] 24)).heap.size = w.heap.size + 1 + 1 + 1 := by simp
  clear hl hb hnt hg hc1 hhd hnd hrg hok hbc hbp hcl hcn hbe hkb hkn hdl hbn
  go_enter Try.func17, Try.ntmps17
  go_upto_region 3 with fail
  generalize hw1e : (((w.alloc (.cells #[.int .i64 n, .slice A l.length c] 24)).alloc (.cells #[.slice none 0 0, .int .i64 0] 31)).alloc (.cells #[.int .i64 n, .slice none 0 0] 24)) = w1 at hw1 hQ hR hX hz1' ⊢
  clear hw1e
  generalize hXe : w.heap.size + 1 + 1 = X at *
  have hxl : w.heap.size + 2 ≤ X := by omega
  have hXs : X < w1.heap.size := by omega
  clear hXe hz1'
  have q0 := blk_cell hQ 0
  have q1 := blk_cell hQ 1
  simp only [List.getElem?_toArray, List.getElem?_cons_zero, List.getElem?_cons_succ] at q0 q1
  have hgb0 : Gb w1 w1 X n none 0 0 (rst b nt (l.take 0)) := ⟨hX, Own.nil_, rfl, Below.refl _ _⟩
  have HGB0 := Lib.hid hgb0
  have HQ := Lib.hid hQ
  have HR := Lib.hid hR
  have HW1 := Lib.hid hw1
  clear hgb0 hX hQ hR hw1
  go_wp2
  clear q0 q1
  go_loopw [36] (fun i wr => ∃ (k : Nat) (A4 : Option Addr) (p4 c4 : Nat), k ≤ l.length ∧ i = .int .i64 k ∧ Hid (Gb w1 wr X n A4 p4 c4 (rst b nt (l.take k)))) (fun i _ => l.length - (intOf i).toNat)
  case atStart => exact ⟨0, none, 0, 0, Nat.zero_le _, rfl, HGB0⟩
  case round =>
    clear HGB0
    obtain ⟨k, A4, p4, c4, hk, rfl, HGR⟩ := hrel
    have hB := HW1.out.trans (HGR.out.lo.mono (by omega))
    by_cases hlt : k < l.length
    · obtain ⟨bb, off, f, t', co, rfl, hbb, he, hcf, hct, hcc⟩ := (HCL.out _ hB).atE hlt
      have hp4 : p4 ≤ 600 := by
        have h1 := HGR.out.len
        have h2 := rst_len b nt (l.take k)
        rw [List.length_take] at h2
        omega
      have hBq : Below w.heap.size w (wr.alloc (.cells #[.int .i64 f, .int .i64 t', .int .i64 co] 48)) := hB.alloc hB.size _
      have hGq := HGR.out.keep ((Below.refl _ _).alloc (Nat.le_refl _) (.cells #[.int .i64 f, .int .i64 t', .int .i64 co] 48))
      have hE := heap_alloc_new wr (.cells #[.int .i64 f, .int .i64 t', .int .i64 co] 48)
      have hkp : okU b nt f t' = true → rst b nt (l.take (k + 1)) = rst b nt (l.take k) ++ [(f, t', co)] := fun hs => by
        have := rst_keep (b := b) (nt := nt) hlt (by rw [he]; exact hs)
        rw [he] at this
        exact this
      have hsk' : okU b nt f t' = false → rst b nt (l.take (k + 1)) = rst b nt (l.take k) := fun hs => rst_skip (b := b) (nt := nt) hlt (by rw [he]; exact hs)
      have HSK := Lib.hid hsk'
      have HKP := Lib.hid hkp
      have hzr : ¬ bb = wr.heap.size := by omega
      clear hsk' hkp he
      go_upto_region 6 with fail
      generalize wr.alloc (.cells #[.int .i64 f, .int .i64 t', .int .i64 co] 48) = wq at *
      generalize wr.heap.size = XE at *
      have x0 := blk_cell hE 0
      have x1 := blk_cell hE 1
      have x2 := blk_cell hE 2
      simp only [List.getElem?_toArray, List.getElem?_cons_zero, List.getElem?_cons_succ] at x0 x1 x2
      have HXE := Lib.hid hE
      have HGB := Lib.hid hGq
      have hk1 : ∀ q, Calls Try.prog 36 #[.slice (some ⟨gb, ob, none⟩) (kb + 1) cb, .int .i64 t'] (wq.drewN q) fun e w' => e = .returned (.bool (decide (t' ∈ b))) ∧ w' = wq.drewN q := fun q => contains_int _ cb (kb + 1) b t' _ _ (HCB.out _ (below_drewN hBq q)) HBN.out (by omega) _ rfl
      have hk2 : ∀ q, Calls Try.prog 36 #[.slice (some ⟨gb, ob, none⟩) kb cb, .int .i64 f] (wq.drewN q) fun e w' => e = .returned (.bool (decide (f ∈ b.dropLast))) ∧ w' = wq.drewN q := fun q => contains_int _ cb kb b.dropLast f _ _ (by rw [HDL.out]; exact HCP.out _ (below_drewN hBq q)) (by rw [HDL.out]; exact HKB.out) (by omega) _ rfl
      have hk3 : ∀ q, Calls Try.prog 36 #[.slice An kn cn, .int .i64 t'] (wq.drewN q) fun e w' => e = .returned (.bool (decide (t' ∈ nt))) ∧ w' = wq.drewN q := fun q => contains_int _ cn kn nt t' _ _ (HCN.out _ (below_drewN hBq q)) HKN.out (by omega) _ rfl
      clear hE hGq hBq hB HGR hcf hct hcc
      cases hm1 : decide (t' ∈ b) with
      | true =>
        rw [hm1] at hk1
        have HM1 := Lib.hid hm1
        clear hm1
        have K1 := Lib.hid hk1
        have K2 := Lib.hid hk2
        have K3 := Lib.hid hk3
        clear hk1 hk2 hk3 
        go_upto_region 6 with fail
        go_quiet ((first | (go_at_call 36; with_reducible exact Calls.quiet_of_same (K1.out _)) | (go_at_call 36; with_reducible exact Calls.quiet_of_same (K2.out _)) | (go_at_call 36; with_reducible exact Calls.quiet_of_same (K3.out _))))
        have hbq : Below wq.heap.size wq (wq.drewN nq) := below_drewN (Below.refl _ _) nq
        have hgb := HGB.out.keep hbq
        have hfin : Gb w1 (wq.drewN nq) X n A4 p4 c4 (rst b nt (l.take (k + 1))) := by
          rw [HSK.out (by unfold okU; rw [HM1.out]; rfl)]; exact hgb
        have HFIN := Lib.hid hfin
        clear hgb hfin hbq x0 x1 x2
        go_wp2
        go_roundw
        case rel => exact ⟨k + 1, A4, p4, c4, by omega, by go_num, HFIN⟩
        case measure => simp [intOf]; omega
      | false =>
        cases hm2 : decide (f ∈ b.dropLast) with
        | true =>
          rw [hm1] at hk1
          rw [hm2] at hk2
          have HM1 := Lib.hid hm1
          have HM2 := Lib.hid hm2
          clear hm1 hm2
          have K1 := Lib.hid hk1
          have K2 := Lib.hid hk2
          have K3 := Lib.hid hk3
          clear hk1 hk2 hk3 
          go_upto_region 6 with fail
          go_quiet ((first | (go_at_call 36; with_reducible exact Calls.quiet_of_same (K1.out _)) | (go_at_call 36; with_reducible exact Calls.quiet_of_same (K2.out _)) | (go_at_call 36; with_reducible exact Calls.quiet_of_same (K3.out _))))
          have hbq : Below wq.heap.size wq (wq.drewN nq) := below_drewN (Below.refl _ _) nq
          have hgb := HGB.out.keep hbq
          have hfin : Gb w1 (wq.drewN nq) X n A4 p4 c4 (rst b nt (l.take (k + 1))) := by
            rw [HSK.out (by unfold okU; rw [HM1.out, HM2.out]; rfl)]; exact hgb
          have HFIN := Lib.hid hfin
          clear hgb hfin hbq x0 x1 x2
          go_wp2
          go_roundw
          case rel => exact ⟨k + 1, A4, p4, c4, by omega, by go_num, HFIN⟩
          case measure => simp [intOf]; omega
        | false =>
          by_cases hm3 : f = (a : Int)
          · have he3 : (f == (a : Int)) = true := beq_iff_eq.2 hm3
            cases hm4 : decide (t' ∈ nt) with
            | true =>
              rw [hm1] at hk1
              rw [hm2] at hk2
              rw [hm4] at hk3
              have HM1 := Lib.hid hm1
              have HM2 := Lib.hid hm2
              have HM3 := Lib.hid hm3
              have HM4 := Lib.hid hm4
              clear hm1 hm2 hm3 hm4
              have K1 := Lib.hid hk1
              have K2 := Lib.hid hk2
              have K3 := Lib.hid hk3
              clear hk1 hk2 hk3 
              go_upto_region 6 with fail
              go_quiet ((first | (go_at_call 36; with_reducible exact Calls.quiet_of_same (K1.out _)) | (go_at_call 36; with_reducible exact Calls.quiet_of_same (K2.out _)) | (go_at_call 36; with_reducible exact Calls.quiet_of_same (K3.out _))))
              clear he3
              have hbq : Below wq.heap.size wq (wq.drewN nq) := below_drewN (Below.refl _ _) nq
              have hgb := HGB.out.keep hbq
              have hfin : Gb w1 (wq.drewN nq) X n A4 p4 c4 (rst b nt (l.take (k + 1))) := by
                rw [HSK.out (by unfold okU; rw [HM1.out, HM2.out, HM4.out, HLA.out, decide_eq_true HM3.out]; rfl)]; exact hgb
              have HFIN := Lib.hid hfin
              clear hgb hfin hbq x0 x1 x2
              go_wp2
              go_roundw
              case rel => exact ⟨k + 1, A4, p4, c4, by omega, by go_num, HFIN⟩
              case measure => simp [intOf]; omega
            | false =>
              rw [hm1] at hk1
              rw [hm2] at hk2
              rw [hm4] at hk3
              have HM1 := Lib.hid hm1
              have HM2 := Lib.hid hm2
              have HM3 := Lib.hid hm3
              have HM4 := Lib.hid hm4
              clear hm1 hm2 hm3 hm4
              have K1 := Lib.hid hk1
              have K2 := Lib.hid hk2
              have K3 := Lib.hid hk3
              clear hk1 hk2 hk3 
              go_upto_region 6 with fail
              go_quiet ((first | (go_at_call 36; with_reducible exact Calls.quiet_of_same (K1.out _)) | (go_at_call 36; with_reducible exact Calls.quiet_of_same (K2.out _)) | (go_at_call 36; with_reducible exact Calls.quiet_of_same (K3.out _))))
              clear he3
              have hbq : Below wq.heap.size wq (wq.drewN nq) := below_drewN (Below.refl _ _) nq
              have hgb := HGB.out.keep hbq
              have hxe := blk_below HXE.out hbq (by exact lt_of_block HXE.out)
              have hst := HKP.out (by unfold okU; rw [HM1.out, HM2.out, HM4.out, HLA.out, decide_eq_true HM3.out]; rfl)
              have HST := Lib.hid hst
              generalize wq.drewN nq = wk at hgb hxe ⊢
              have GB2 := hgb.keep ((Below.refl _ _).alloc (Nat.le_refl _) (.cells #[.int .i64 f, .int .i64 t', .int .i64 co] 48))
              have r0 := blk_cell hgb.box 1
              have e0 := blk_cell hxe 0
              have e1 := blk_cell hxe 1
              have e2 := blk_cell hxe 2
              simp only [List.getElem?_toArray, List.getElem?_cons_zero, List.getElem?_cons_succ] at r0 e0 e1 e2
              have hXs := lt_of_block hgb.box
              clear hst hbq x0 x1 x2
              go_wp2_with (at_builtin; refine wpList_push _ rfl (.tmp 67) (.tmp 69) _ rfl X 48 i0 _ 3 24 ce Try.underlying22 hi hz0 hz1 hz2 rfl (by decide) _ _ p4 GB2.len rfl GB2.own wk.heap.size 1 (f, t', co) rfl (news3' rfl) (fun _ _ => one_ce _ _) (by omega) (by omega) (by simp; omega) ?_; intro A3 c3 w3 hgrown hgw hat3; have hc3 := blk_cell (blk_grown GB2.box hgw (GB2.own.ne_ GB2.box (by decide))) 1; have hf3 := blk_free (blk_grown GB2.box hgw (GB2.own.ne_ GB2.box (by decide))) 1; simp only [List.getElem?_toArray, List.getElem?_cons_zero, List.getElem?_cons_succ] at hc3)
              have hgp := GB2.push hgw hgrown
              have HGP := Lib.hid hgp
              clear hgp hgw hgrown hat3 GB2 hgb hxe r0 e0 e1 e2
              go_roundw
              case' rel => exact ⟨k + 1, A3, p4 + 1, c3, by omega, by go_num, Lib.hid (by rw [HST.out]; exact HGP.out)⟩
              case' measure => simp [intOf]; omega
          · have he3 : (f == (a : Int)) = false := beq_eq_false_iff_ne.2 hm3
            rw [hm1] at hk1
            rw [hm2] at hk2
            have HM1 := Lib.hid hm1
            have HM2 := Lib.hid hm2
            have HM3 := Lib.hid hm3
            clear hm1 hm2 hm3
            have K1 := Lib.hid hk1
            have K2 := Lib.hid hk2
            have K3 := Lib.hid hk3
            clear hk1 hk2 hk3 
            go_upto_region 6 with fail
            go_quiet ((first | (go_at_call 36; with_reducible exact Calls.quiet_of_same (K1.out _)) | (go_at_call 36; with_reducible exact Calls.quiet_of_same (K2.out _)) | (go_at_call 36; with_reducible exact Calls.quiet_of_same (K3.out _))))
            clear he3
            have hbq : Below wq.heap.size wq (wq.drewN nq) := below_drewN (Below.refl _ _) nq
            have hgb := HGB.out.keep hbq
            have hxe := blk_below HXE.out hbq (by exact lt_of_block HXE.out)
            have hst := HKP.out (by unfold okU; rw [HM1.out, HM2.out, HLA.out, decide_eq_false HM3.out]; rfl)
            have HST := Lib.hid hst
            generalize wq.drewN nq = wk at hgb hxe ⊢
            have GB2 := hgb.keep ((Below.refl _ _).alloc (Nat.le_refl _) (.cells #[.int .i64 f, .int .i64 t', .int .i64 co] 48))
            have r0 := blk_cell hgb.box 1
            have e0 := blk_cell hxe 0
            have e1 := blk_cell hxe 1
            have e2 := blk_cell hxe 2
            simp only [List.getElem?_toArray, List.getElem?_cons_zero, List.getElem?_cons_succ] at r0 e0 e1 e2
            have hXs := lt_of_block hgb.box
            clear hst hbq x0 x1 x2
            go_wp2_with (at_builtin; refine wpList_push _ rfl (.tmp 67) (.tmp 69) _ rfl X 48 i0 _ 3 24 ce Try.underlying22 hi hz0 hz1 hz2 rfl (by decide) _ _ p4 GB2.len rfl GB2.own wk.heap.size 1 (f, t', co) rfl (news3' rfl) (fun _ _ => one_ce _ _) (by omega) (by omega) (by simp; omega) ?_; intro A3 c3 w3 hgrown hgw hat3; have hc3 := blk_cell (blk_grown GB2.box hgw (GB2.own.ne_ GB2.box (by decide))) 1; have hf3 := blk_free (blk_grown GB2.box hgw (GB2.own.ne_ GB2.box (by decide))) 1; simp only [List.getElem?_toArray, List.getElem?_cons_zero, List.getElem?_cons_succ] at hc3)
            have hgp := GB2.push hgw hgrown
            have HGP := Lib.hid hgp
            clear hgp hgw hgrown hat3 GB2 hgb hxe r0 e0 e1 e2
            go_roundw
            case' rel => exact ⟨k + 1, A3, p4 + 1, c3, by omega, by go_num, Lib.hid (by rw [HST.out]; exact HGP.out)⟩
            case' measure => simp [intOf]; omega
    · obtain rfl : k = l.length := by omega
      rw [List.take_length] at HGR
      obtain ⟨rs, hrs⟩ : ∃ rs, rst b nt l = rs := ⟨_, rfl⟩
      have hgood := rst_good (b := b) (nt := nt) HG.out
      have hp4 : p4 ≤ 600 := by
        have h1 := HGR.out.len
        have h2 := rst_len b nt l
        omega
      have hRs := fun (D : List Int) (hD : Sh n t ((rst b nt l).map bk) D) => rst_rs HG.out HC1.out ht b nt hD
      have hcst : ∀ e ∈ (rst b nt l).map bk, 0 ≤ e.2.2 := fun e he => by
        obtain ⟨x, hx, rfl⟩ := List.mem_map.1 he
        have := HC1.out x (List.mem_filter.1 hx).1
        show 0 ≤ x.2.2
        omega
      have hends : ∀ e ∈ rst b nt l, (0 ≤ e.1 ∧ e.1 < n) ∧ (0 ≤ e.2.1 ∧ e.2.1 < n) ∧ e.2.2 ≤ 10000 := fun e he => by
        have h1 := HG.out.ends e (List.mem_filter.1 he).1
        have h2 := HG.out.cost e (List.mem_filter.1 he).1
        omega
      rw [hrs] at HGR hgood hRs hcst hends
      have HRS := Lib.hid hrs
      have HGOOD := Lib.hid hgood
      have HRR := Lib.hid hRs
      have HCST := Lib.hid hcst
      have HENDS := Lib.hid hends
      have hlen4 := HGR.out.len
      have HLEN4 := Lib.hid hlen4
      have hq := blk_below HQ.out HGR.out.lo (by omega)
      have hr := blk_below HR.out HGR.out.lo (by omega)
      have hXr := lt_of_block HGR.out.box
      have q0 := blk_cell hq 0
      have q1 := blk_cell hq 1
      have r0 := blk_cell HGR.out.box 1
      simp only [List.getElem?_toArray, List.getElem?_cons_zero, List.getElem?_cons_succ] at q0 q1 r0
      have hG2 := HGR.out.keep ((Below.refl _ _).alloc (Nat.le_refl _) (.cells #[.int .i64 n, .slice none 0 0] 24))
      have hq2 := blk_alloc hq (.cells #[.int .i64 n, .slice none 0 0] 24)
      have hr2 := blk_alloc hr (.cells #[.int .i64 n, .slice none 0 0] 24)
      have hY := heap_alloc_new wr (.cells #[.int .i64 n, .slice none 0 0] 24)
      have hB2 := hB.alloc hB.size (.cells #[.int .i64 n, .slice none 0 0] 24)
      have hYs : wr.heap.size < (wr.alloc (.cells #[.int .i64 n, .slice none 0 0] 24)).heap.size := by simp
      have hblk := fun (g : Nat) (e : (Value.slice A4 p4 c4).ownBlock = some g) => (HGR.out.own.base_ g e).2
      clear hrs hgood hRs hcst hends hlen4 hq hr hB HQ HR HW1
      go_upto_region 10 with fail
      generalize wr.alloc (.cells #[.int .i64 n, .slice none 0 0] 24) = w2 at *
      generalize wr.heap.size = Y at *
      have hrow : ∀ W, Below Y w2 W → Own W X 48 3 ce (.slice A4 p4 c4) rs := fun W hW => hG2.own.below hW hblk
      have hbx : ∀ W, Below Y w2 W → W.heap[w.heap.size]? = some (.cells #[.int .i64 n, .slice A l.length c] 24 (0, 0)) ∧ W.heap[w.heap.size + 1]? = some (.cells #[.slice none 0 0, .int .i64 0] 31 (0, 0)) ∧ W.heap[X]? = some (.cells #[.int .i64 n, .slice A4 p4 c4] 24 (0, 0)) := fun W hW =>
        ⟨blk_below hq2 hW (by omega), blk_below hr2 hW (by omega), blk_below hG2.box hW hXr⟩
      have hgb2 : Gb w2 w2 Y n none 0 0 ((rs.take 0).map bk) := ⟨hY, Own.nil_, rfl, Below.refl _ _⟩
      have HROW := Lib.hid hrow
      have HBX := Lib.hid hbx
      have HGB2 := Lib.hid hgb2
      have HB2 := Lib.hid hB2
      have r0 := blk_cell hG2.box 1
      simp only [List.getElem?_toArray, List.getElem?_cons_zero, List.getElem?_cons_succ] at r0
      clear hrow hbx hgb2 hB2 hG2 hq2 hr2 hY hblk HGR q0 q1
      go_wp2
      clear r0
      go_loopw [79] (fun i wr => ∃ (j : Nat) (A5 : Option Addr) (p5 c5 : Nat), j ≤ p4 ∧ i = .int .i64 j ∧ Hid (Gb w2 wr Y n A5 p5 c5 ((rs.take j).map bk))) (fun i _ => p4 - (intOf i).toNat)
      case atStart => exact ⟨0, none, 0, 0, Nat.zero_le _, rfl, HGB2⟩
      case round =>
        clear HGB2
        obtain ⟨j, A5, p5, c5, hjj, rfl, HGS⟩ := hrel
        by_cases hlt : j < p4
        · have hja : j < rs.length := by rw [HLEN4.out]; exact hlt
          obtain ⟨S, f, t', co, hA4, hS0, hS1, he, s0, s1, s2, _⟩ := own_atE HLEN4.out (HROW.out _ HGS.out.lo) hja
          have hp5 : p5 ≤ 600 := by
            have h1 := HGS.out.len
            rw [List.length_map, List.length_take] at h1
            omega
          have hst : (rs.take (j + 1)).map bk = (rs.take j).map bk ++ [(t', f, co)] := by
            rw [List.take_succ_eq_append_getElem hja, List.map_append, he]
            rfl
          have HST := Lib.hid hst
          have hGq := HGS.out.keep ((Below.refl _ _).alloc (Nat.le_refl _) (.cells #[.int .i64 f, .int .i64 t', .int .i64 co] 48))
          have GB2 := hGq.keep ((Below.refl _ _).alloc (Nat.le_refl _) (.cells #[.int .i64 t', .int .i64 f, .int .i64 co] 48))
          have g0 := blk_cell hGq.box 1
          have hYq := lt_of_block HGS.out.box
          simp only [List.getElem?_toArray, List.getElem?_cons_zero, List.getElem?_cons_succ] at g0
          subst hA4
          clear hst he
          go_wp2_with (at_builtin; refine wpList_push _ rfl (.tmp 84) (.tmp 92) _ rfl Y 48 i0 _ 3 24 ce Try.underlying22 hi hz0 hz1 hz2 rfl (by decide) _ _ p5 GB2.len rfl GB2.own (wr.heap.size + 1) 1 (t', f, co) rfl (news3' (by simp)) (fun _ _ => one_ce _ _) (by omega) (by omega) (by simp; omega) ?_; intro A3 c3 w3 hgrown hgw hat3; have hc3 := blk_cell (blk_grown GB2.box hgw (GB2.own.ne_ GB2.box (by decide))) 1; have hf3 := blk_free (blk_grown GB2.box hgw (GB2.own.ne_ GB2.box (by decide))) 1; simp only [List.getElem?_toArray, List.getElem?_cons_zero, List.getElem?_cons_succ] at hc3)
          have hgp := GB2.push hgw hgrown
          have HGP := Lib.hid hgp
          clear hgp hgw hgrown hat3 GB2 hGq g0 s0 s1 s2
          go_roundw
          case' rel => exact ⟨j + 1, A3, p5 + 1, c3, by omega, by go_num, Lib.hid (by rw [HST.out]; exact HGP.out)⟩
          case' measure => simp [intOf]; omega
        · obtain rfl : p4 = j := by omega
          rw [List.take_of_length_le (by rw [HLEN4.out]; exact Nat.le_refl _)] at HGS
          have krun := Dijk.run_any n t A5 c5 (rs.map bk) wr HGS.out.own.sl.2 HGOOD.out ht HCST.out
          rw [HGS.out.len] at krun
          have g0 := blk_cell HGS.out.box 0
          have g1 := blk_cell HGS.out.box 1
          simp only [List.getElem?_toArray, List.getElem?_cons_zero, List.getElem?_cons_succ] at g0 g1
          have hY2 : Y < wr.heap.size := lt_of_block HGS.out.box
          have HRUN := Lib.hid krun
          have HLO := Lib.hid HGS.out.lo
          clear krun HGS
          go_wp2_with fail
          refine HRUN.out.mono ?_
          rintro e w3 ⟨SD, D, rfl, ownD, hD, hb3⟩
          clear g0 g1
          have hlo3 : Below Y w2 w3 := HLO.out.trans (hb3.mono (by omega))
          have hB3 : Below w.heap.size w w3 := HB2.out.trans (hlo3.mono (by omega))
          have hDl : D.length = n := by have := hD.len; omega
          have hdg : ∀ k : Nat, D.getD k 0 = dg D (k : Int) := fun k => by unfold dg; rw [Int.toNat_natCast]
          have hcD : ∀ W, Below w3.heap.size w3 W → ∀ k : Nat, k < n → W.cell? ⟨SD, k, none⟩ = some (.int .i64 (dg D (k : Int))) := fun W hW k hk => by
            have := (own_at1 hDl (ownD.keep hW) hk).1
            rw [hdg] at this
            exact this
          obtain ⟨hq, hr, hxb⟩ := HBX.out w3 hlo3
          have hbx3 : ∀ W, Below w3.heap.size w3 W → W.heap[w.heap.size]? = some (.cells #[.int .i64 n, .slice A l.length c] 24 (0, 0)) ∧ W.heap[w.heap.size + 1]? = some (.cells #[.slice none 0 0, .int .i64 0] 31 (0, 0)) ∧ W.heap[X]? = some (.cells #[.int .i64 n, .slice A4 p4 c4] 24 (0, 0)) := fun W hW => HBX.out W (hlo3.trans (hW.mono (by have := hb3.size; omega)))
          have hrow3 : ∀ W, Below w3.heap.size w3 W → Own W X 48 3 ce (.slice A4 p4 c4) rs := fun W hW => HROW.out W (hlo3.trans (hW.mono (by have := hb3.size; omega)))
          have hRs := HRR.out D hD
          have hr0 := blk_cell hr 0
          have hr1 := blk_cell hr 1
          have fr0 := blk_free hr 0
          have fr1 := blk_free hr 1
          simp only [List.getElem?_toArray, List.getElem?_cons_zero, List.getElem?_cons_succ] at hr0 hr1
          have hda := hcD w3 (Below.refl _ _) a han
          have hw3s : w.heap.size + 2 ≤ w3.heap.size := by have := lt_of_block hr; have := hb3.size; omega
          have HD := Lib.hid hD
          have HDL3 := Lib.hid hDl
          have HCD := Lib.hid hcD
          have HBX3 := Lib.hid hbx3
          have HROW3 := Lib.hid hrow3
          have HRS2 := Lib.hid hRs
          have HB3 := Lib.hid hB3
          have hlof := hD.lo a (by omega) (by omega)
          have hza : (a : Int) < (n : Int) := by omega
          clear hD hDl hcD hbx3 hrow3 hRs hb3 hlo3 hq hxb ownD HRUN HLO HBX HROW HRR HB2 HGOOD HCST hdg hr hY2 hYs hXs
          by_cases hfar : dg D (a : Int) = far
          · have hno := fun q => on_none (s := s) (b0 := b0) (a := (a : Int)) (nt := nt) HG.out HC1.out ht (by rw [← HBE.out, HRS.out]; exact HD.out) hfar q
            have hfv : dg D (a : Int) = 1099511627776 := hfar
            rw [hfv] at hda
            have HNO := Lib.hid hno
            have hfin : Below w.heap.size w ((w3.setCell ⟨w.heap.size + 1, 0, none⟩ (.slice none 0 0)).setCell ⟨w.heap.size + 1, 1, none⟩ (.int .i64 0)) := (hB3.setCell (p := ⟨w.heap.size + 1, 0, none⟩) (by dsimp only; omega) _).setCell (p := ⟨w.heap.size + 1, 1, none⟩) (by dsimp only; omega) _
            have HFIN := Lib.hid hfin
            clear hfar hfv hno hfin hB3 hlof
            go_wp2
            refine bodyPost_ret (v := .tuple #[.agg #[.slice none 0 0, .int .i64 0], .bool false]) (by simp [results, Try.results17, go_sem, hr0, hr1, fr0, fr1]) rfl ⟨HFIN.out, .inr ⟨rfl, Lib.hid HNO.out⟩⟩
          · have hflt : dg D (a : Int) < far := by omega
            have hbl3 := HCB.out w3 hB3
            have kcl := clone_int (some ⟨gb, ob, none⟩) cb b w3.heap.size w3 hbl3 (Nat.le_refl _) (fun h => (nomatch h)) (by rw [HBN.out]; omega)
            rw [HBN.out] at kcl
            have KCL := Lib.hid kcl
            have hne16 : (dg D (a : Int) == 1099511627776) = false := beq_eq_false_iff_ne.2 hfar
            clear hbl3 kcl hfar hr0 hr1 fr0 fr1 hxa hlof
            go_wp2_with fail
            refine KCL.out.mono ?_
            rintro e w4 ⟨A6, c6, rfl, own6, hb4⟩
            rw [HBN.out] at own6 ⊢
            have hgy0 : Gy n t rs D (prs ((a : Int) :: [])) ∧ ((a : Int) :: []).getLast? = some (a : Int) := ⟨fun q hq => by simp [prs] at hq, rfl⟩
            have HGY0 := Lib.hid hgy0
            have own6' : Own w4 w3.heap.size 3 1 ci (.slice A6 (kb + 1 + ([] : List Int).length) c6) (b ++ []) := by rw [List.append_nil]; exact own6
            have HO6 := Lib.hid own6'
            have HB4 := Lib.hid hb4
            clear hne16 hda own6 own6' hgy0 hb4 KCL hB3
            go_wp2
            go_loopw [10, 18] (fun i sl wr => ∃ (r : List Int) (v : Nat) (A6 : Option Addr) (c6 : Nat), i = .int .i64 v ∧ sl = .slice A6 (kb + 1 + r.length) c6 ∧ Hid (Own wr w3.heap.size 3 1 ci (.slice A6 (kb + 1 + r.length) c6) (b ++ r)) ∧ Hid (Gy n t rs D (prs ((a : Int) :: r)) ∧ ((a : Int) :: r).getLast? = some (v : Int)) ∧ v < n ∧ dg D (v : Int) < far ∧ Hid (Below w3.heap.size w3 wr)) (fun i _ _ => (dg D (intOf i)).toNat)
            case atStart => exact ⟨[], a, A6, c6, rfl, rfl, HO6, HGY0, han, hflt, HB4⟩
            case round =>
              clear HO6 HGY0 HB4 hflt
              obtain ⟨r, v, A6, c6, rfl, rfl, HO, HGY, hvn, hvf, HLO⟩ := hrel
              obtain ⟨hq, hr, hxb⟩ := HBX3.out wr HLO.out
              have hrl := Gy.len HRS2.out HGY.out.1 (by omega)
              have hB5 : Below w.heap.size w wr := HB3.out.trans (HLO.out.mono (by omega))
              by_cases hvt : v = t
              · subst hvt
                have hsm := on_least (b0 := b0) (a := (a : Int)) (nt := nt) (r := r) HG.out HC1.out ht (by rw [← HBE.out, HRS.out]; exact HD.out) HHD.out HND.out HRG.out HOK.out (by rw [← HBE.out, HRS.out]; exact HGY.out.1) HGY.out.2
                have hpe : b0 ++ (a : Int) :: r = b ++ r := by rw [HBE.out]; simp
                rw [hpe] at hsm
                have hpl : (b ++ r).length = kb + 1 + r.length := by rw [List.length_append, HBN.out]
                have hco := hsm.1.1.cost (chk_zero.2 HG.out) (by omega)
                have kco := Walk.cost_any n A c l A6 c6 (b ++ r) wr (HCL.out wr hB5) HO.out.sl.2 (by omega) (by omega)
                rw [hco, hpl] at kco
                have KCO := Lib.hid kco
                have HSM := Lib.hid hsm
                have q0 := blk_cell hq 0
                have q1 := blk_cell hq 1
                simp only [List.getElem?_toArray, List.getElem?_cons_zero, List.getElem?_cons_succ] at q0 q1
                have HPL := Lib.hid hpl
                clear kco hsm hpe hpl hco hxb
                go_wp2_with fail
                refine KCO.out.mono ?_
                rintro e w5 ⟨rfl, hb5⟩
                have hr5 := blk_below hr hb5 (lt_of_block hr)
                have r0 := blk_cell hr5 0
                have r1 := blk_cell hr5 1
                have fr0 := blk_free hr5 0
                have fr1 := blk_free hr5 1
                simp only [List.getElem?_toArray, List.getElem?_cons_zero, List.getElem?_cons_succ] at r0 r1
                have hB6 := hB5.trans (hb5.mono hB5.size)
                obtain ⟨wv, hwv⟩ : ∃ wv, wt l (b ++ r) = wv := ⟨_, rfl⟩
                rw [hwv]
                have hfin : Below w.heap.size w ((w5.setCell ⟨w.heap.size + 1, 0, none⟩ (.slice A6 (kb + 1 + r.length) c6)).setCell ⟨w.heap.size + 1, 1, none⟩ (.int .i64 wv)) := (hB6.setCell (p := ⟨w.heap.size + 1, 0, none⟩) (by dsimp only; omega) _).setCell (p := ⟨w.heap.size + 1, 1, none⟩) (by dsimp only; omega) _
                have o5 := (HO.out.keep hb5)
                have hoz := ((o5.setCell (p := ⟨w.heap.size + 1, 0, none⟩) (o5.ne_ hr5 (by decide)) (.slice A6 (kb + 1 + r.length) c6)).setCell (p := ⟨w.heap.size + 1, 1, none⟩) (o5.ne_ hr5 (by decide)) (.int .i64 wv)).mono (base' := w.heap.size) (by omega)
                have HFIN := Lib.hid hfin
                have HOZ := Lib.hid hoz
                have HWV := Lib.hid hwv
                clear hfin o5 hoz hb5 hB6 hr5 hr hq q0 q1 hB5 KCO hwv
                go_wp2
                refine bodyPost_ret (v := .tuple #[.agg #[.slice A6 (kb + 1 + r.length) c6, .int .i64 wv], .bool true]) (by simp [results, Try.results17, go_sem, r0, r1, fr0, fr1]) rfl ⟨HFIN.out, .inl ⟨A6, c6, b ++ r, ?_, ?_, HSM⟩⟩
                · rw [HPL.out, HWV.out]
                · rw [HPL.out]; exact HOZ.out
              · rename World => wo
                have hvt' : ¬ (v : Int) = (t : Int) := by omega
                obtain ⟨x1', x2', x3', x4'⟩ := HRS2.out.next (a := (v : Int)) ⟨by omega, by omega⟩ hvf hvt'
                obtain ⟨x, hx⟩ := Int.eq_ofNat_of_zero_le x2'.1
                have hxn : x < n := by omega
                have hdx : dg D (x : Int) < dg D (v : Int) := by rw [← hx]; exact x3'
                have hgs := Gy.snoc HGY.out.1 HGY.out.2 (x := (x : Int)) hx.symm hvt' ⟨by omega, by omega⟩ hvf
                have HGS2 := Lib.hid hgs
                have HX := Lib.hid hx
                have q0 := blk_cell hq 0
                have r0 := blk_cell hxb 1
                simp only [List.getElem?_toArray, List.getElem?_cons_zero, List.getElem?_cons_succ] at q0 r0
                have hdl : 0 ≤ dg D (x : Int) := (HD.out.lo x (by omega) (by omega)).1
                clear x1' x2' x3' x4' hx hgs hq hr hxb hB5
                go_wp2
                clear q0 r0
                go_loopw [115, 19] (fun i sl wr => ∃ j : Nat, j ≤ p4 ∧ i = .int .i64 j ∧ sl = .int .i64 (nx n (rs.take j) D v) ∧ Hid (Below wo.heap.size wo wr)) (fun i _ _ => p4 - (intOf i).toNat)
                case atStart => exact ⟨0, Nat.zero_le _, rfl, rfl, Lib.hid (Below.refl _ _)⟩
                case round =>
                  obtain ⟨j, hj4, rfl, rfl, HLQ⟩ := hrel
                  by_cases hlt : j < p4
                  · have hja : j < rs.length := by rw [HLEN4.out]; exact hlt
                    have hlq3 : Below w3.heap.size w3 wr := HLO.out.trans (HLQ.out.mono HLO.out.size)
                    obtain ⟨S, f, t', co, hA4, hS0, hS1, he, s0, s1, s2, _⟩ := own_atE HLEN4.out (HROW3.out wr hlq3) hja
                    obtain ⟨_, he2, hcoB⟩ := HENDS.out (f, t', co) (he ▸ List.getElem_mem hja)
                    simp only at he2 hcoB
                    obtain ⟨tn, rfl⟩ := Int.eq_ofNat_of_zero_le he2.1
                    have htn : tn < n := by omega
                    have hnx := nx_succ n rs D v j hja
                    rw [he] at hnx
                    obtain ⟨nxk, hnxk⟩ : ∃ nxk, nx n (rs.take j) D v = nxk := ⟨_, rfl⟩
                    rw [hnxk] at hnx ⊢
                    subst hA4
                    have hE := heap_alloc_new wr (.cells #[.int .i64 f, .int .i64 tn, .int .i64 co] 48)
                    have hlx := HLQ.out.alloc HLQ.out.size (.cells #[.int .i64 f, .int .i64 tn, .int .i64 co] 48)
                    have hlx3 : Below w3.heap.size w3 (wr.alloc (.cells #[.int .i64 f, .int .i64 tn, .int .i64 co] 48)) := HLO.out.trans (hlx.mono HLO.out.size)
                    have hcc := HC1.out
                    have hco1 : -10000 ≤ co ∧ co ≤ 10000 := by
                      have hm := List.getElem_mem hja
                      rw [he, ← HRS.out] at hm
                      have := HG.out.cost _ (List.mem_filter.1 hm).1
                      simp only at this
                      omega
                    obtain ⟨dt, hdt⟩ : ∃ dt, dg D (tn : Int) = dt := ⟨_, rfl⟩
                    obtain ⟨dv, hdv⟩ : ∃ dv, dg D (v : Int) = dv := ⟨_, rfl⟩
                    have cdt := HCD.out _ hlx3 tn htn
                    have cdv := HCD.out _ hlx3 v hvn
                    rw [hdt] at cdt
                    rw [hdv] at cdv
                    have hdt0 := HD.out.lo tn (by omega) (by omega)
                    rw [hdt] at hdt0
                    have hfa : far = 1099511627776 := rfl
                    have hwrap : IntKind.i64.wrap (co + dt) = co + dt := IntWalk.i64_in _ (by omega)
                    have hzt : (tn : Int) < (n : Int) := by omega
                    have hzv : (v : Int) < (n : Int) := by omega
                    have HNX := Lib.hid hnx
                    have HE := Lib.hid hE
                    have HLX0 := Lib.hid hlx
                    clear hnx hnxk he hE hlx hlx3 he2 hcc hfa
                    go_upto_region 24 with fail
                    generalize wr.alloc (.cells #[.int .i64 f, .int .i64 tn, .int .i64 co] 48) = wx at *
                    generalize wr.heap.size = XE at *
                    have x0 := blk_cell HE.out 0
                    have x1 := blk_cell HE.out 1
                    have x2 := blk_cell HE.out 2
                    simp only [List.getElem?_toArray, List.getElem?_cons_zero, List.getElem?_cons_succ] at x0 x1 x2
                    have HXE := HE
                    have HLX := HLX0
                    clear HLX0 s0 s1 s2 hS0 hS1
                    by_cases hfv : f = (v : Int)
                    · have he1 : (f == (v : Int)) = true := beq_iff_eq.2 hfv
                      by_cases hdf : dg D (tn : Int) < far
                      · have he2 : (dt < 1099511627776) = True := by rw [← hdt]; exact eq_true hdf
                        by_cases hsm : co + dt = dv
                        · have he3 : (co + dt == dv) = true := beq_iff_eq.2 hsm
                          have HF := Lib.hid hfv
                          have HF2 := Lib.hid hdf
                          have HS := Lib.hid hsm
                          clear hfv hdf hsm
                          have HDT := Lib.hid hdt
                          have HDV := Lib.hid hdv
                          clear hdt hdv
                          go_upto_region 24 with fail
                          go_quiet (fail)
                          obtain ⟨mn, hmn⟩ : ∃ mn, (if (tn : Int) < nxk then (tn : Int) else nxk) = mn := ⟨_, rfl⟩
                          have hm2 : min nxk (tn : Int) = mn := by rw [← hmn]; split <;> omega
                          have HM2 := Lib.hid hm2
                          clear hm2 he1 he2 he3
                          have hbq : Below wx.heap.size wx (wx.drewN nq) := below_drewN (Below.refl _ _) nq
                          have hlo6 : Below wo.heap.size wo (wx.drewN nq) := HLX.out.trans (hbq.mono HLX.out.size)
                          have hxe := blk_below HXE.out hbq (by exact lt_of_block HXE.out)
                          generalize wx.drewN nq = wy at hlo6 hxe ⊢
                          have y1 := blk_cell hxe 1
                          simp only [List.getElem?_toArray, List.getElem?_cons_zero, List.getElem?_cons_succ] at y1
                          have HLO6 := Lib.hid hlo6
                          clear hbq hlo6 hxe x0 x1 x2 cdt cdv
                          go_wp2
                          go_roundw
                          case rel => exact ⟨j + 1, by omega, by go_num, by rw [HNX.out]; unfold nxS; rw [if_pos ⟨HF.out, HF2.out, by show co + dg D (tn : Int) = _; rw [HDT.out, HDV.out]; exact HS.out⟩]; show _ = Value.int _ (min nxk (tn : Int)); rw [HM2.out], HLO6⟩
                          case measure => simp [intOf]; omega
                        · have he3 : (co + dt == dv) = false := beq_eq_false_iff_ne.2 hsm
                          have HS := Lib.hid hsm
                          clear hfv hdf hsm
                          have HDT := Lib.hid hdt
                          have HDV := Lib.hid hdv
                          clear hdt hdv
                          go_upto_region 24 with fail
                          go_quiet (fail)
                          clear he1 he2 he3
                          have hbq : Below wx.heap.size wx (wx.drewN nq) := below_drewN (Below.refl _ _) nq
                          have hlo6 : Below wo.heap.size wo (wx.drewN nq) := HLX.out.trans (hbq.mono HLX.out.size)
                          have HLO6 := Lib.hid hlo6
                          clear hbq hlo6 x0 x1 x2 cdt cdv
                          go_wp2
                          go_roundw
                          case rel => exact ⟨j + 1, by omega, by go_num, by rw [HNX.out]; unfold nxS; rw [if_neg (fun h => HS.out (by have h3 := h.2.2; rw [← HDT.out, ← HDV.out]; exact h3))], HLO6⟩
                          case measure => simp [intOf]; omega
                      · have he2 : (dt < 1099511627776) = False := by rw [← hdt]; exact eq_false hdf
                        have HDF := Lib.hid hdf
                        clear hfv hdf
                        have HDT := Lib.hid hdt
                        have HDV := Lib.hid hdv
                        clear hdt hdv
                        go_upto_region 24 with fail
                        go_quiet (fail)
                        clear he1 he2
                        have hbq : Below wx.heap.size wx (wx.drewN nq) := below_drewN (Below.refl _ _) nq
                        have hlo6 : Below wo.heap.size wo (wx.drewN nq) := HLX.out.trans (hbq.mono HLX.out.size)
                        have HLO6 := Lib.hid hlo6
                        clear hbq hlo6 x0 x1 x2 cdt cdv
                        go_wp2
                        go_roundw
                        case rel => exact ⟨j + 1, by omega, by go_num, by rw [HNX.out]; unfold nxS; rw [if_neg (fun h => HDF.out h.2.1)], HLO6⟩
                        case measure => simp [intOf]; omega
                    · have he1 : (f == (v : Int)) = false := beq_eq_false_iff_ne.2 hfv
                      have HFV := Lib.hid hfv
                      clear hfv
                      have HDT := Lib.hid hdt
                      have HDV := Lib.hid hdv
                      clear hdt hdv
                      go_upto_region 24 with fail
                      go_quiet (fail)
                      clear he1
                      have hbq : Below wx.heap.size wx (wx.drewN nq) := below_drewN (Below.refl _ _) nq
                      have hlo6 : Below wo.heap.size wo (wx.drewN nq) := HLX.out.trans (hbq.mono HLX.out.size)
                      have HLO6 := Lib.hid hlo6
                      clear hbq hlo6 x0 x1 x2 cdt cdv
                      go_wp2
                      go_roundw
                      case rel => exact ⟨j + 1, by omega, by go_num, by rw [HNX.out]; unfold nxS; rw [if_neg (fun h => HFV.out h.1)], HLO6⟩
                      case measure => simp [intOf]; omega
                  · obtain rfl : p4 = j := by omega
                    rw [List.take_of_length_le (by rw [HLEN4.out]; exact Nat.le_refl _), HX.out]
                    have hOq := HO.out.keep HLQ.out
                    have hpl : (b ++ r).length = kb + 1 + r.length := by rw [List.length_append, HBN.out]
                    have hl7 : Below w3.heap.size w3 wr := HLO.out.trans (HLQ.out.mono HLO.out.size)
                    have HPL := Lib.hid hpl
                    have h64r : kb + 1 + r.length ≤ 200 := by omega
                    clear hpl
                    go_wp2_with (at_builtin; refine wpList_push _ rfl (.tmp 151) (.tmp 153) _ rfl w3.heap.size 3 j0 _ 1 8 ci Try.underlying29 hj hy0 hy1 hy2 rfl (by decide) _ (b ++ r) (kb + 1 + r.length) HPL.out rfl (hOq.alloc _) wr.heap.size 1 (x : Int) rfl (news1' rfl) (fun _ _ => one_ci _ _) (by omega) (by omega) (by have := hl7.size; simp; omega) ?_; intro A3 c3 w8 hown3 hg3 hat3)
                    have hl8 : Below w3.heap.size w3 w8 := (hl7.alloc hl7.size _).grown hg3 (by have := hl7.size; simp; omega) (fun k hk => hOq.lo k hk)
                    have HL8 := Lib.hid hl8
                    have ho8 : Own w8 w3.heap.size 3 1 ci (.slice A3 (kb + 1 + (r ++ [(x : Int)]).length) c3) (b ++ (r ++ [(x : Int)])) := by
                      rw [List.length_append, List.length_singleton, ← List.append_assoc]
                      exact hown3
                    have HO8 := Lib.hid ho8
                    clear hl8 ho8 hown3 hg3 hat3 hOq hl7
                    go_wp2
                    go_roundw
                    case rel => exact ⟨r ++ [(x : Int)], x, A3, c3, rfl, by rw [List.length_append, List.length_singleton]; rfl, HO8, HGS2, hxn, by omega, HL8⟩
                    case measure => simp only [intOf]; omega
end Go.Proofs.Ytjebckehmmbkbaa.Yen
