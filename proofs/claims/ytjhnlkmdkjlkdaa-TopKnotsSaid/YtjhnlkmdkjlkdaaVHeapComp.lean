/- The walks of package heap at int, with the order of a closure that answers a < b. -/
import Derived.Test.YtjhnlkmdkjlkdaaVHeapPop
namespace Go.Proofs.Ytjhnlkmdkjlkdaa.HeapComp
open Go.RowKit Go.Proofs.Ytjhnlkmdkjlkdaa HeapLaw Go.Proofs.Ytjhnlkmdkjlkdaa.Net Go.Proofs.Ytjhnlkmdkjlkdaa.Heap
set_option linter.unusedSimpArgs false
set_option linter.unusedVariables false

theorem infoI : (Try.prog.info? 3).map (fun i => (i.zero, i.size, i.bytes)) = some (some (.int .i64 0), 1, 8) := by kernel_rfl
def ltI (a b : Int) : Bool := decide (a < b)
theorem ltI_ord : HeapLaw.Ord ltI := ⟨fun {a b} h => by simp only [ltI, decide_eq_true_eq, decide_eq_false_iff_not] at h ⊢; omega, fun {a b c} h1 h2 => by simp only [ltI, decide_eq_false_iff_not] at h1 h2 ⊢; omega⟩
def fnI : Value := .func (.func 55) #[] #[]
theorem less_i (a b : Int) (w : World) : Calls Try.prog 55 #[.int .i64 a, .int .i64 b] w fun e w' => e = .returned (.bool (ltI a b)) ∧ w' = w := by
  unfold ltI
  go_enter Try.func55, Try.ntmps55
  go_wp2
  go_ret
  exact ⟨by first | trivial | rfl, rfl⟩
/-- the heap at block H: its row -/
structure HI (w : World) (base H : Nat) (A : Option Addr) (n c : Nat) (L : List Int) : Prop where
  hb : base ≤ H
  blk : w.heap[H]? = some (.cells #[fnI, .slice A n c] 123 (0, 0))
  own : Own w base 3 1 ci (.slice A n c) L
  len : L.length = n
section
variable {w w' : World} {base H : Nat} {A : Option Addr} {n c : Nat} {L : List Int}
theorem HI.lt (h : HI w base H A n c L) : H < w.heap.size := lt_of_block h.blk
theorem HI.ne (h : HI w base H A n c L) : (Value.slice A n c).ownBlock ≠ some H := h.own.ne_ h.blk (by decide)
theorem HI.alloc (h : HI w base H A n c L) (o : Obj) : HI (w.alloc o) base H A n c L := ⟨h.hb, blk_alloc h.blk o, h.own.alloc o, h.len⟩
theorem HI.drewN (h : HI w base H A n c L) (k : Nat) : HI (w.drewN k) base H A n c L := ⟨h.hb, h.blk, h.own.drewN k, h.len⟩
theorem HI.keep (h : HI w base H A n c L) (hb : Below w.heap.size w w') : HI w' base H A n c L := ⟨h.hb, blk_below h.blk hb h.lt, h.own.keep hb, h.len⟩
/-- one element's cell -/
theorem HI.at_ (h : HI w base H A n c L) {i : Nat} (hi : i < n) : ∃ S a, A = some ⟨S, 0, none⟩ ∧ base ≤ S ∧ S < w.heap.size ∧ S ≠ H ∧ L.getD i 0 = a ∧
    w.cell? ⟨S, i, none⟩ = some (.int .i64 a) ∧ w.frozen? ⟨S, i, none⟩ = false := by
  have hl := h.len
  have hne := h.ne
  have hown := h.own
  obtain ⟨S, c', hv, hb, hS, _, hc⟩ := hown.some_ (by omega)
  injection hv with hv _ _
  subst hv
  have e : L.getD i 0 = L[i]'(by omega) := by rw [List.getD_eq_getElem?_getD, List.getElem?_eq_getElem (by omega)]; rfl
  have h0 := hc i (by omega) 0 (by omega)
  rw [Nat.mul_one, Nat.add_zero] at h0
  exact ⟨S, _, rfl, hb, hS, fun e => hne (by rw [e]; rfl), e, h0.1, h0.2⟩
end
theorem own_set1 {w : World} {base : Nat} {e : TypeId} {S c n : Nat} {l : List Int} (hn : l.length = n) (h : Own w base e 1 ci (.slice (some ⟨S, 0, none⟩) n c) l) (k : Nat) (hk : k < n) (a : Int) :
    Own (w.setCell ⟨S, k, none⟩ (.int .i64 a)) base e 1 ci (.slice (some ⟨S, 0, none⟩) n c) (l.set k a) := by
  have h1 := own_setj hn h k 0 a (by omega) (by decide) (fun j hj hne => by omega)
  rw [Nat.mul_one, Nat.add_zero] at h1
  exact h1
theorem HI.swap {w : World} {base H : Nat} {S n c : Nat} {L : List Int} (h : HI w base H (some ⟨S, 0, none⟩) n c L) {i k : Nat} (hi : i < n) (hk : k < n) {a x : Int} (hxi : L.getD i 0 = x) (hxk : L.getD k 0 = a) (hS : S ≠ H) :
    HI ((w.setCell ⟨S, i, none⟩ (.int .i64 a)).setCell ⟨S, k, none⟩ (.int .i64 x)) base H (some ⟨S, 0, none⟩) n c (swp 0 L i k) := by
  have hS' : H ≠ S := fun e => hS e.symm
  refine ⟨h.hb, blk_far (blk_far h.blk hS' _) hS' _, ?_, by rw [swp_len]; exact h.len⟩
  have h1 := own_set1 h.len h.own i hi a
  have h2 := own_set1 (by simpa using h.len) h1 k hk x
  unfold swp
  rw [hxi, hxk]
  exact h2

set_option maxRecDepth 100000 in
set_option maxHeartbeats 4000000 in
theorem push_i (base H : Nat) (A : Option Addr) (n c : Nat) (L : List Int) (x : Int) (w : World) (h : HI w base H A n c L) (hp : Hp 0 ltI L) (hn : (n + 1) * 8 ≤ 140737488355328) (hb : base ≤ w.heap.size) :
    Calls Try.prog 56 #[.pointer (some ⟨H, 0, none⟩), .int .i64 x] w fun e w' => (∃ v, e = .returned v) ∧ ∃ A' c' L', HI w' base H A' (n + 1) c' L' ∧ L'.Perm (x :: L) ∧ Hp 0 ltI L' ∧ Kp w w' H (Value.slice A n c).ownBlock ∧ ∀ S, (Value.slice A' (n + 1) c').ownBlock = some S → (Value.slice A n c).ownBlock = some S ∨ w.heap.size ≤ S := by
  obtain ⟨i0, hi, hz0, hz1, hz2⟩ := info_parts infoI
  have hc1 := blk_cell h.blk 1
  have hlt := h.lt
  have hne := h.ne
  simp only [List.getElem?_toArray, List.getElem?_cons_zero, List.getElem?_cons_succ] at hc1
  have hb0 := blk_alloc h.blk (.cells #[.int .i64 x] 3)
  have hown := h.own.alloc (.cells #[.int .i64 x] 3)
  have hlen := h.len
  have HLEN := Lib.hid hlen
  have HH := Lib.hid h
  have HB0 := Lib.hid hb0
  have HNE := Lib.hid hne
  clear hlen h hb0 hne
  go_enter Try.func56, Try.ntmps56
  go_wp2_with (at_builtin; refine wpList_push _ rfl (.tmp 10) (.tmp 12) _ rfl base 3 i0 (.int .i64 0) 1 8 ci Try.underlying25 hi hz0 hz1 hz2 rfl (by decide) _ L n HLEN.out rfl hown w.heap.size 1 x rfl news1 (fun _ _ => one_ci _ _) (by omega) (by omega) (by simp; omega) ?_; intro A3 c3 w4 hown3 hgrow3 hat3; have hH4 : w4.heap[H]? = some (.cells #[fnI, .slice A n c] 123 (0, 0)) := (hgrow3.block _ (by simp; omega) (fun e => HNE.out e.symm)).trans HB0.out; have hE4 := blk_cell hH4 1; have hF4 := blk_free hH4 1; have hZ4 := lt_of_block hH4; simp only [List.getElem?_toArray, List.getElem?_cons_zero, List.getElem?_cons_succ] at hE4; have HH4 := Lib.hid hH4; have HOWN3 := Lib.hid hown3; have HGROW3 := Lib.hid hgrow3; have HAT3 := Lib.hid hat3; clear hH4 hown3 hgrow3 hat3)
  have hB4 : Kp w (w4.setCell ⟨H, 1, none⟩ (.slice A3 (n + 1) c3)) H (Value.slice A n c).ownBlock := (((Kp.refl _ _ _).alloc _).grown HGROW3.out).setCell (.inl rfl) _
  have hat4 : ∀ S, (Value.slice A3 (n + 1) c3).ownBlock = some S → (Value.slice A n c).ownBlock = some S ∨ w.heap.size ≤ S := fun S hS => by
    rcases HAT3.out with h1 | h1
    · exact .inl (h1.symm.trans hS)
    · rw [h1] at hS
      injection hS with hS
      simp at hS
      exact .inr (by omega)
  have h3 : HI (w4.setCell ⟨H, 1, none⟩ (.slice A3 (n + 1) c3)) base H A3 (n + 1) c3 (L ++ [x]) := ⟨HH.out.hb, blk_set HH4.out 1 _, HOWN3.out.setCell (HOWN3.out.ne_ HH4.out (by decide)) _, by simp [HLEN.out]⟩
  have hup := Hp.snoc hp x
  rw [HLEN.out] at hup
  have HUP := Lib.hid hup
  have HAT := Lib.hid hat4
  have H3 := Lib.hid h3
  generalize (w4.setCell ⟨H, 1, none⟩ (.slice A3 (n + 1) c3)) = W0 at *
  clear hat4 hup h3 hp hc1 hE4 hF4 hZ4 HH4 HOWN3 HGROW3 HAT3 hown HB0 HNE HH
  have hn1 : (n : Int) + 1 - 1 = n := by omega
  go_loopw [4] (fun s4 wr => ∃ (i : Nat) (L' : List Int), i < n + 1 ∧ s4 = .int .i64 i ∧ HI wr base H A3 (n + 1) c3 L' ∧ L'.Perm (x :: L) ∧ Up 0 ltI L' i ∧ Kp w wr H (Value.slice A n c).ownBlock) (fun s4 _ => (intOf s4).toNat)
  case atStart => exact ⟨n, L ++ [x], by omega, by first | rfl | (simp), H3.out, List.perm_append_comm, HUP.out, hB4⟩
  case round =>
    obtain ⟨i, L', hi1, rfl, hh, hpm, hu, hB⟩ := hrel
    have HPM := Lib.hid hpm
    have HU := Lib.hid hu
    have c0 := blk_cell hh.blk 0
    have c1 := blk_cell hh.blk 1
    simp only [List.getElem?_toArray, List.getElem?_cons_zero, List.getElem?_cons_succ] at c0 c1
    unfold fnI at c0
    clear hpm hu H3 HUP hB4
    by_cases hi0 : 0 < i
    · obtain ⟨j, rfl⟩ : ∃ j, i = j + 1 := ⟨i - 1, by omega⟩
      have hq : (j : Int).tdiv 2 = ((j / 2 : Nat) : Int) := by rw [Int.ofNat_tdiv]; rfl
      have hj2 : j / 2 < j + 1 := by omega
      obtain ⟨S, a, rfl, hS0, hS1, hSH, hgi, ci0, fi0⟩ := hh.at_ hi1
      obtain ⟨S', a', hSe, _, _, _, hgk, ck0, fk0⟩ := hh.at_ (show j / 2 < n + 1 by omega)
      injection hSe with hSe
      injection hSe with hSe _ _
      subst hSe
      have hj0 : (0 : Int) ≤ ((j / 2 : Nat) : Int) := by omega
      generalize hk2 : j / 2 = m at *
      have HK2 := Lib.hid hk2
      have HGI := Lib.hid hgi
      have HGK := Lib.hid hgk
      have HH := Lib.hid hh
      have hl := fun W => less_i a a' W
      have hHs := hh.lt
      have b1 : (j : Int) + 1 < (n : Int) + 1 := by omega
      have b2 : (0 : Int) ≤ (j : Int) + 1 := by omega
      have b3 : (m : Int) < (n : Int) + 1 := by omega
      have b4 : (j : Int) < n := by omega
      have b5 : j < n := by omega
      have b6 : m < n + 1 := by omega
      have b7 : (m : Int) ≤ n := by omega
      have b8 : ¬ ((m : Int) < 0) := by omega
      have b9 : ¬ ((j : Int) + 1 < 0) := by omega
      clear hk2 hgi hgk
      cases hlt2 : ltI a a' with
      | false =>
        simp only [hlt2] at hl
        have KL := Lib.hid hl
        have HLT := Lib.hid hlt2
        clear hl hlt2
        go_wp2
        go_quiet ((go_at_call 55; exact Calls.quiet_of_same (KL.out _)))
        have hfin := HU.out.done (fun _ => by
          have e1 : par (j + 1) = m := by have := HK2.out; unfold par; omega
          rw [e1, HGI.out, HGK.out]; exact HLT.out)
        have HFIN := Lib.hid hfin
        clear hfin hh
        go_wp2
        refine bodyPost_end (v := .tuple #[]) (by simp [results, Try.results56, go_sem]) rfl ?_
        exact ⟨⟨_, rfl⟩, _, c3, L', HH.out.drewN _, HPM.out, HFIN.out, hB.below (below_drewN (Below.refl _ _) _), HAT.out⟩
      | true =>
        simp only [hlt2] at hl
        have KL := Lib.hid hl
        have HLT := Lib.hid hlt2
        clear hl hlt2
        go_wp2
        go_quiet ((go_at_call 55; exact Calls.quiet_of_same (KL.out _)))
        have hm2 : ¬ j + 1 = m := by omega
        clear hh
        go_wp2
        go_region
        all_goals
          go_wp2
          go_roundw
          case' rel =>
            have e1 : par (j + 1) = m := by have := HK2.out; unfold par; omega
            have hln : L'.length = n + 1 := HH.out.len
            have hSr := HAT.out S rfl
            have hst := HU.out.step ltI_ord (Nat.succ_pos j) (by omega) (by rw [e1, HGI.out, HGK.out]; exact HLT.out)
            rw [e1] at hst
            exact ⟨m, swp 0 L' (j + 1) m, by omega, rfl, (HH.out.drewN _).swap hi1 b6 HGI.out HGK.out hSH, (swp_perm (by omega) (by omega) (by omega)).trans HPM.out, hst, ((hB.below (below_drewN (Below.refl _ _) _)).setCell (p := ⟨S, j + 1, none⟩) (.inr hSr) _).setCell (p := ⟨S, m, none⟩) (.inr hSr) _⟩
          case' measure => simp [intOf]; omega
    · obtain rfl : i = 0 := by omega
      have hfin := HU.out.done (fun h => absurd h (Nat.lt_irrefl 0))
      have HH := Lib.hid hh
      have HFIN := Lib.hid hfin
      clear hh hfin
      go_wp2
      refine bodyPost_end (v := .tuple #[]) (by simp [results, Try.results56, go_sem]) rfl ?_
      exact ⟨⟨_, rfl⟩, A3, c3, L', HH.out, HPM.out, HFIN.out, hB, HAT.out⟩
theorem new_i (w : World) : Calls Try.prog 54 #[.func (.func 55) #[] #[]] w fun e w' => ∃ H, e = .returned (.pointer (some ⟨H, 0, none⟩)) ∧ HI w' w.heap.size H none 0 0 [] ∧ Below w.heap.size w w' := by
  go_enter Try.func54, Try.ntmps54
  go_wp2
  refine bodyPost_ret (v := .pointer (some ⟨w.heap.size, 0, none⟩)) (by simp [results, Try.results54, go_sem]) rfl ?_
  exact ⟨w.heap.size, rfl, ⟨Nat.le_refl _, heap_alloc_new _ _, Own.nil_, rfl⟩, (Below.refl _ _).alloc (Nat.le_refl _) _⟩
theorem len_i {base H : Nat} {A : Option Addr} {n c : Nat} {L : List Int} (w : World) (h : HI w base H A n c L) : Calls Try.prog 57 #[.pointer (some ⟨H, 0, none⟩)] w fun e w' => e = .returned (.int .i64 n) ∧ w' = w := by
  have c1 := blk_cell h.blk 1
  simp only [List.getElem?_toArray, List.getElem?_cons_zero, List.getElem?_cons_succ] at c1
  clear h
  go_enter Try.func57, Try.ntmps57
  go_wp2
  exact bodyPost_ret (v := .int .i64 n) (by simp [results, Try.results57, go_sem]) rfl ⟨rfl, rfl⟩

/-- the top set to the last one, and the row cut short -/
theorem HI.cut {w : World} {base H : Nat} {S m c : Nat} {L : List Int} (h : HI w base H (some ⟨S, 0, none⟩) (m + 1) c L) {a : Int} (hx : L.getD m 0 = a) (hS : S ≠ H) :
    HI ((w.setCell ⟨S, 0, none⟩ (.int .i64 a)).setCell ⟨H, 1, none⟩ (.slice (some ⟨S, 0, none⟩) m c)) base H (some ⟨S, 0, none⟩) m c (cutTop 0 L) := by
  have hS' : H ≠ S := fun e => hS e.symm
  have h1 := own_set1 h.len h.own 0 (by omega) a
  have h2 := own_short (m := m) (by rw [List.length_set]; exact h.len) h1 (by omega)
  have hb := blk_far h.blk hS' (.int .i64 a) (p := ⟨S, 0, none⟩)
  have e : cutTop 0 L = (L.set 0 a).take m := by unfold cutTop; rw [h.len, Nat.add_sub_cancel, hx]
  refine ⟨h.hb, ?_, ?_, ?_⟩
  · exact blk_set hb 1 _
  · rw [e]; exact h2.setCell (h2.ne_ hb (by decide)) _
  · rw [cutTop_len, h.len]; omega
/-- which of the two under i is the least -/
structure PickI (L : List Int) (i : Nat) (bb : Bool) : Prop where
  l : bb = false → Least 0 ltI L i (2 * i + 1)
  r : bb = true → Least 0 ltI L i (2 * i + 1 + 1)
/-- what Pop answers -/
def PopI (base H : Nat) (A : Option Addr) (m c : Nat) (L : List Int) (w : World) (e : Ending) (w' : World) : Prop :=
  ∃ p L', e = .returned (.int .i64 p) ∧ L.getD 0 0 = p ∧ HI w' base H A m c L' ∧ (p :: L').Perm L ∧ Hp 0 ltI L' ∧ Kp w w' H (Value.slice A (m + 1) c).ownBlock

set_option maxRecDepth 100000 in
set_option maxHeartbeats 8000000 in
theorem pop_i (base H : Nat) (A : Option Addr) (m c : Nat) (L : List Int) (w : World) (h : HI w base H A (m + 1) c L) (hp : Hp 0 ltI L) (hn : (m + 1) * 8 ≤ 140737488355328) (hb : base ≤ w.heap.size) :
    Calls Try.prog 58 #[.pointer (some ⟨H, 0, none⟩)] w fun e w' => PopI base H A m c L w e w' := by
  obtain ⟨S, p, rfl, hS0, hS1, hSH, hg0, c00, f00⟩ := h.at_ (show 0 < m + 1 by omega)
  obtain ⟨S', a, hSe, _, _, _, hgm, cm0, _⟩ := h.at_ (show m < m + 1 by omega)
  injection hSe with hSe
  injection hSe with hSe _ _
  subst hSe
  have hc0 := blk_cell h.blk 0
  have hc1 := blk_cell h.blk 1
  have hf1 := blk_free h.blk 1
  have hlt := h.lt
  have hne := h.ne
  obtain ⟨_, hcap⟩ : True ∧ m + 1 ≤ c := ⟨trivial, by obtain ⟨A', c', hv, hc, _⟩ := h.own.form; injection hv with _ _ hv; have := h.len; omega⟩
  simp only [List.getElem?_toArray, List.getElem?_cons_zero, List.getElem?_cons_succ] at hc0 hc1
  unfold fnI at hc0
  have b1 : (0 : Int) < (m : Int) + 1 := by omega
  have b2 : (m : Int) < (m : Int) + 1 := by omega
  have b3 : (m : Int) ≤ (c : Int) := by omega
  have b4 : m ≤ c := by omega
  have b5 : (0 : Int) ≤ (m : Int) := by omega
  have HH := Lib.hid h
  have HP := Lib.hid hp
  have HG0 := Lib.hid hg0
  have HGM := Lib.hid hgm
  have hSw := hS1
  clear h hp hg0 hgm hne
  go_enter Try.func58, Try.ntmps58
  go_wp2
  go_region
  all_goals
    go_wp2
    have hcut := (HH.out.cut HGM.out hSH)
    have hBs : Kp w ((w.setCell ⟨S, 0, none⟩ (.int .i64 a)).setCell ⟨H, 1, none⟩ (.slice (some ⟨S, 0, none⟩) m c)) H (some S) := ((Kp.refl _ _ _).setCell (by exact .inr (.inl rfl)) _).setCell (by exact .inl rfl) _
    have hdn := cutTop_dn HP.out
    have hpc := cutTop_perm (d := 0) (L := L) (fun e => by have := HH.out.len; rw [e] at this; simp at this)
    rw [HG0.out] at hpc
    have HCUT := Lib.hid hcut
    have HDN0 := Lib.hid hdn
    have HPC := Lib.hid hpc
    generalize ((w.setCell ⟨S, 0, none⟩ (.int .i64 a)).setCell ⟨H, 1, none⟩ (.slice (some ⟨S, 0, none⟩) m c)) = W0 at *
    clear hcut hdn hpc c00 f00 cm0 hc0 hc1 hf1
    go_loopw [5] (fun s5 wr => ∃ (i : Nat) (L' : List Int), i ≤ m ∧ s5 = .int .i64 i ∧ HI wr base H (some ⟨S, 0, none⟩) m c L' ∧ L'.Perm (cutTop 0 L) ∧ Dn 0 ltI L' i ∧ S < wr.heap.size ∧ Kp w wr H (some S)) (fun s5 _ => m - (intOf s5).toNat)
    case atStart => exact ⟨0, cutTop 0 L, Nat.zero_le _, rfl, HCUT.out.drewN 1, List.Perm.refl _, HDN0.out, Nat.lt_of_lt_of_le hSw hBs.size, hBs.drew⟩
    case round =>
      obtain ⟨i, L2, him0, rfl, hh, hpm, hdn, hSs, hB⟩ := hrel
      have HPM := Lib.hid hpm
      have HDN := Lib.hid hdn
      clear HCUT HDN0 hBs hpm hdn
      by_cases hk : 2 * i + 1 < m
      · have HHr := Lib.hid hh
        have c0 := blk_cell hh.blk 0
        have c1 := blk_cell hh.blk 1
        simp only [List.getElem?_toArray, List.getElem?_cons_zero, List.getElem?_cons_succ] at c0 c1
        unfold fnI at c0
        have hHs := hh.lt
        have hi2 : 2 * (i : Int) + 1 < m := by omega
        go_upto_region 8 with fail
        obtain ⟨k1, hk1⟩ : ∃ k1 : Nat, k1 = 2 * i + 1 := ⟨_, rfl⟩
        have hk1e : 2 * (i : Int) + 1 = (k1 : Int) := by omega
        rw [hk1e] at *
        have HK1 := Lib.hid hk1
        have hk1m : k1 < m := by omega
        clear hk hk1 hk1e
        go_cut [73] from 48 to 73 (fun s73 wx => ∃ bb, s73 = .bool bb ∧ PickI L2 i bb ∧ HI wx base H (some ⟨S, 0, none⟩) m c L2 ∧ S < wx.heap.size ∧ Kp w wx H (some S))
        case first =>
          by_cases hg : k1 + 1 < m
          · have hk2m : (k1 : Int) + 1 < m := by omega
            have hwr : IntKind.i64.wrap ((k1 : Int) + 1) = (k1 : Int) + 1 := IntWalk.i64_in _ (by omega)
            obtain ⟨T, a1, hTe, _, _, _, hg1, c10, _⟩ := hh.at_ hg
            injection hTe with hTe
            injection hTe with hTe _ _
            subst hTe
            obtain ⟨T, a0, hTe, _, _, _, hg0', c00, _⟩ := hh.at_ hk1m
            injection hTe with hTe
            injection hTe with hTe _ _
            subst hTe
            have y1 : (k1 : Int) < m := by omega
            have y2 : ¬ ((k1 : Int) < 0) := by omega
            have y3 : ¬ ((k1 : Int) + 1 < 0) := by omega
            have y4 : (0 : Int) ≤ (k1 : Int) + 1 := by omega
            have y5 : ((k1 : Int) + 1).toNat = k1 + 1 := by omega
            have hl := fun W => less_i a1 a0 W
            have hlen := hh.len
            have HG1 := Lib.hid hg1
            have HGZ := Lib.hid hg0'
            have HLEN := Lib.hid hlen
            generalize hbb : ltI a1 a0 = bb at hl
            have KL := Lib.hid hl
            have HBB := Lib.hid hbb
            clear hg1 hg0' hl hbb hh hlen
            go_quiet ((go_at_call 55; exact Calls.quiet_of_same (KL.out _)))
            have hl0 : bb = false → Least 0 ltI L2 i (2 * i + 1) := fun hf => by
              refine least_left ltI_ord (by have := HLEN.out; have := HK1.out; omega) (fun _ => ?_)
              have q1 := HG1.out
              have q0 := HGZ.out
              rw [HK1.out] at q1 q0
              rw [show 2 * i + 2 = 2 * i + 1 + 1 from rfl, q1, q0, HBB.out]
              exact hf
            have hl1 : bb = true → Least 0 ltI L2 i (2 * i + 1 + 1) := fun ht => by
              refine least_right ltI_ord (by have := HLEN.out; have := HK1.out; omega) ?_
              have q1 := HG1.out
              have q0 := HGZ.out
              rw [HK1.out] at q1 q0
              rw [show 2 * i + 2 = 2 * i + 1 + 1 from rfl, q1, q0, HBB.out]
              exact ht
            have HL0 := Lib.hid hl0
            have HL1 := Lib.hid hl1
            clear hl0 hl1
            go_wp2_with fail
            go_meet
            first | exact ⟨bb, rfl, ⟨HL0.out, HL1.out⟩, HHr.out.drewN _, by exact hSs, hB.below (below_drewN (Below.refl _ _) _)⟩ | exact ⟨⟨HL0.out, HL1.out⟩, HHr.out.drewN _, by exact hSs, hB.below (below_drewN (Below.refl _ _) _)⟩ | exact ⟨bb, by simp, ⟨HL0.out, HL1.out⟩, HHr.out.drewN _, by exact hSs, hB.below (below_drewN (Below.refl _ _) _)⟩
          · have hd : decide ((k1 : Int) + 1 < m) = false := by simp; omega
            have hwr : IntKind.i64.wrap ((k1 : Int) + 1) = (k1 : Int) + 1 := IntWalk.i64_in _ (by omega)
            have hlen := hh.len
            have hl0 : Least 0 ltI L2 i (2 * i + 1) := least_left ltI_ord (by have := HK1.out; omega) (fun h => absurd h (by have := HK1.out; omega))
            have HL0 := Lib.hid hl0
            clear hl0 hlen hh
            go_quiet (fail)
            go_wp2_with fail
            go_meet
            first | exact ⟨false, rfl, ⟨fun _ => HL0.out, fun h => by cases h⟩, HHr.out.drewN _, by exact hSs, hB.below (below_drewN (Below.refl _ _) _)⟩ | exact ⟨⟨fun _ => HL0.out, fun h => by cases h⟩, HHr.out.drewN _, by exact hSs, hB.below (below_drewN (Below.refl _ _) _)⟩
        case rest =>
          clear hh HHr hSs hB c0 c1 hHs
          obtain ⟨bb, rfl, ⟨hl0, hl1⟩, hh, hSs, hB⟩ := hcut
          have HHr := Lib.hid hh
          have c0 := blk_cell hh.blk 0
          have c1 := blk_cell hh.blk 1
          simp only [List.getElem?_toArray, List.getElem?_cons_zero, List.getElem?_cons_succ] at c0 c1
          unfold fnI at c0
          have hHs := hh.lt
          have hwr : IntKind.i64.wrap ((k1 : Int) + 1) = (k1 : Int) + 1 := IntWalk.i64_in _ (by omega)
          have hlen2 := hh.len
          cases bb with
          | false =>
            have hL0 := hl0 rfl
            have HL0 := Lib.hid hL0
            clear hl0 hl1 hL0
            go_upto_region 10 with fail
            have hL : Least 0 ltI L2 i k1 := by rw [HK1.out]; exact HL0.out
            obtain ⟨kk, hkk⟩ : ∃ kk : Nat, k1 = kk := ⟨_, rfl⟩
            rw [hkk] at hL ⊢
            have hkm : kk < m := by have := hL.kl; rw [hlen2] at this; exact this
            have him : i < m := by omega
            have hik : i < kk := by have h0 := hL.k0; have h1 := par_lt h0; have h2 := hL.kp; omega
            obtain ⟨T, a2, hTe, _, _, _, hg2, c20, f20⟩ := hh.at_ hkm
            injection hTe with hTe
            injection hTe with hTe _ _
            subst hTe
            obtain ⟨T, a3, hTe, _, _, _, hg3, c30, f30⟩ := hh.at_ him
            injection hTe with hTe
            injection hTe with hTe _ _
            subst hTe
            have y1 : (kk : Int) < m := by omega
            have y2 : (i : Int) < m := by omega
            have y3 : ¬ ((kk : Int) < 0) := by omega
            have y4 : ¬ ((i : Int) < 0) := by omega
            have hne1 : ¬ i = kk := by omega
            have hl := fun W => less_i a2 a3 W
            have HG2 := Lib.hid hg2
            have HG3 := Lib.hid hg3
            have HLS := Lib.hid hL
            have HLEN2 := Lib.hid hlen2
            clear hg2 hg3 hh hL hkk hwr hlen2
            cases hlt2 : ltI a2 a3 with
            | false =>
              simp only [hlt2] at hl
              have KL := Lib.hid hl
              have HLT := Lib.hid hlt2
              clear hl hlt2
              go_wp2
              go_quiet ((go_at_call 55; exact Calls.quiet_of_same (KL.out _)))
              have hfin := HDN.out.done ltI_ord HLS.out (by rw [HG2.out, HG3.out]; exact HLT.out)
              have HFIN := Lib.hid hfin
              clear hfin
              go_wp2
              refine bodyPost_ret (v := .int .i64 p) (by simp [results, Try.results58, go_sem]) rfl ?_
              exact ⟨p, L2, rfl, HG0.out, by first | exact HHr.out.drewN _ | exact (HHr.out.drewN _).drewN _, (List.Perm.cons _ HPM.out).trans HPC.out, HFIN.out, by first | exact hB.below (below_drewN (Below.refl _ _) _) | exact hB.below (below_drewN (below_drewN (Below.refl _ _) _) _)⟩
            | true =>
              simp only [hlt2] at hl
              have KL := Lib.hid hl
              have HLT := Lib.hid hlt2
              clear hl hlt2
              go_wp2
              go_quiet ((go_at_call 55; exact Calls.quiet_of_same (KL.out _)))
              go_wp2
              go_region
              all_goals
                go_wp2
                go_roundw
                case' rel =>
                  have hln : L2.length = m := HHr.out.len
                  have hst := HDN.out.step ltI_ord HLS.out (by rw [HG2.out, HG3.out]; exact HLT.out)
                  exact ⟨kk, swp 0 L2 i kk, by omega, rfl, (HHr.out.drewN _).swap him hkm HG3.out HG2.out hSH, (swp_perm (by omega) (by omega) (by omega)).trans HPM.out, hst, by simpa [World.setCell] using hSs, ((hB.below (below_drewN (Below.refl _ _) _)).setCell (p := ⟨S, i, none⟩) (by exact .inr (.inl rfl)) _).setCell (p := ⟨S, kk, none⟩) (by exact .inr (.inl rfl)) _⟩
                case' measure => simp [intOf]; omega
          | true =>
            have hL0 := hl1 rfl
            have HL0 := Lib.hid hL0
            clear hl0 hl1 hL0
            go_upto_region 10 with fail
            obtain ⟨kk, hkk⟩ : ∃ kk : Nat, kk = k1 + 1 := ⟨_, rfl⟩
            have hke : (k1 : Int) + 1 = (kk : Int) := by omega
            have hL : Least 0 ltI L2 i kk := by rw [hkk, HK1.out]; exact HL0.out
            rw [hke]
            have hkm : kk < m := by have := hL.kl; rw [hlen2] at this; exact this
            clear hke
            have him : i < m := by omega
            have hik : i < kk := by have h0 := hL.k0; have h1 := par_lt h0; have h2 := hL.kp; omega
            obtain ⟨T, a2, hTe, _, _, _, hg2, c20, f20⟩ := hh.at_ hkm
            injection hTe with hTe
            injection hTe with hTe _ _
            subst hTe
            obtain ⟨T, a3, hTe, _, _, _, hg3, c30, f30⟩ := hh.at_ him
            injection hTe with hTe
            injection hTe with hTe _ _
            subst hTe
            have y1 : (kk : Int) < m := by omega
            have y2 : (i : Int) < m := by omega
            have y3 : ¬ ((kk : Int) < 0) := by omega
            have y4 : ¬ ((i : Int) < 0) := by omega
            have hne1 : ¬ i = kk := by omega
            have hl := fun W => less_i a2 a3 W
            have HG2 := Lib.hid hg2
            have HG3 := Lib.hid hg3
            have HLS := Lib.hid hL
            have HLEN2 := Lib.hid hlen2
            clear hg2 hg3 hh hL hkk hwr hlen2
            cases hlt2 : ltI a2 a3 with
            | false =>
              simp only [hlt2] at hl
              have KL := Lib.hid hl
              have HLT := Lib.hid hlt2
              clear hl hlt2
              go_wp2
              go_quiet ((go_at_call 55; exact Calls.quiet_of_same (KL.out _)))
              have hfin := HDN.out.done ltI_ord HLS.out (by rw [HG2.out, HG3.out]; exact HLT.out)
              have HFIN := Lib.hid hfin
              clear hfin
              go_wp2
              refine bodyPost_ret (v := .int .i64 p) (by simp [results, Try.results58, go_sem]) rfl ?_
              exact ⟨p, L2, rfl, HG0.out, by first | exact HHr.out.drewN _ | exact (HHr.out.drewN _).drewN _, (List.Perm.cons _ HPM.out).trans HPC.out, HFIN.out, by first | exact hB.below (below_drewN (Below.refl _ _) _) | exact hB.below (below_drewN (below_drewN (Below.refl _ _) _) _)⟩
            | true =>
              simp only [hlt2] at hl
              have KL := Lib.hid hl
              have HLT := Lib.hid hlt2
              clear hl hlt2
              go_wp2
              go_quiet ((go_at_call 55; exact Calls.quiet_of_same (KL.out _)))
              go_wp2
              go_region
              all_goals
                go_wp2
                go_roundw
                case' rel =>
                  have hln : L2.length = m := HHr.out.len
                  have hst := HDN.out.step ltI_ord HLS.out (by rw [HG2.out, HG3.out]; exact HLT.out)
                  exact ⟨kk, swp 0 L2 i kk, by omega, rfl, (HHr.out.drewN _).swap him hkm HG3.out HG2.out hSH, (swp_perm (by omega) (by omega) (by omega)).trans HPM.out, hst, by simpa [World.setCell] using hSs, ((hB.below (below_drewN (Below.refl _ _) _)).setCell (p := ⟨S, i, none⟩) (by exact .inr (.inl rfl)) _).setCell (p := ⟨S, kk, none⟩) (by exact .inr (.inl rfl)) _⟩
                case' measure => simp [intOf]; omega
      · have hln := hh.len
        have hfin := HDN.out.leaf (by omega)
        have hd : ¬ (2 * (i : Int) + 1 < m) := by omega
        have HHr := Lib.hid hh
        have HFIN := Lib.hid hfin
        clear hh hln hfin
        go_wp2
        refine bodyPost_ret (v := .int .i64 p) (by simp [results, Try.results58, go_sem]) rfl ?_
        exact ⟨p, L2, rfl, HG0.out, HHr.out, (List.Perm.cons _ HPM.out).trans HPC.out, HFIN.out, hB⟩
end Go.Proofs.Ytjhnlkmdkjlkdaa.HeapComp
