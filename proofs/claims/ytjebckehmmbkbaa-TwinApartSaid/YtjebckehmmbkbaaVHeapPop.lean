/- The walk of Heap[api.Pop].Pop. -/
import Derived.Test.YtjebckehmmbkbaaVHeapWalks
namespace Go.Proofs.Ytjebckehmmbkbaa.Heap
open Go.RowKit Go.Proofs.Ytjebckehmmbkbaa HeapLaw Go.Proofs.Ytjebckehmmbkbaa.Net
set_option linter.unusedSimpArgs false
set_option linter.unusedVariables false

theorem fl_take {α : Type} {sz : Nat} {cell : α → Nat → Value} (l : List α) (m : Nat) : fl sz cell (l.take m) = (fl sz cell l).take (m * sz) := by
  induction l generalizing m with
  | nil => simp [fl]
  | cons a r ih =>
    have e1 : fl sz cell (a :: r) = (List.range sz).map (cell a) ++ fl sz cell r := rfl
    cases m with
    | zero => rw [Nat.zero_mul]; rfl
    | succ m =>
      have e2 : fl sz cell ((a :: r).take (m + 1)) = (List.range sz).map (cell a) ++ fl sz cell (r.take m) := rfl
      have e3 : ((List.range sz).map (cell a)).length = sz := by simp
      have e4 : (m + 1) * sz - sz = m * sz := by rw [Nat.succ_mul]; omega
      have e5 : ((List.range sz).map (cell a)).take ((m + 1) * sz) = (List.range sz).map (cell a) := List.take_of_length_le (by rw [e3, Nat.succ_mul]; omega)
      rw [e2, e1, List.take_append, e5, e3, e4, ih]
theorem own_short {α : Type} {sz : Nat} {cell : α → Nat → Value} {w : World} {base : Nat} {e : TypeId} {S c n m : Nat} {l : List α} (hn : l.length = n) (h : Own w base e sz cell (.slice (some ⟨S, 0, none⟩) n c) l) (hm : m ≤ n) :
    Own w base e sz cell (.slice (some ⟨S, 0, none⟩) m c) (l.take m) := by
  subst hn
  have hl : (l.take m).length = m := by rw [List.length_take]; omega
  unfold Own at h ⊢
  rw [hl, fl_take]
  refine ⟨?_, ?_⟩
  · rw [List.length_take, fl_len]
    have := Nat.mul_le_mul_right sz hm
    omega
  · rcases h.2 with ⟨h1, _⟩ | ⟨g, cap, cur, hv, hg, hh, hc, hc2, hsz, ht⟩
    · cases h1
    · injection hv with h1 h2 h3
      injection h1 with h1
      injection h1 with h1 _ _
      subst h1 h3
      refine .inr ⟨S, c, cur, rfl, hg, hh, by omega, hc2, hsz, ?_⟩
      rw [← ht, List.take_take, Nat.min_eq_left (Nat.mul_le_mul_right sz hm)]
/-- the top set to the last one, and the row cut short -/
theorem HeapAt.cut {w : World} {base H : Nat} {fn : Value} {S m c : Nat} {L : List Pop} (h : HeapAt w base H fn (some ⟨S, 0, none⟩) (m + 1) c L) {a b : Int} (hx : L.getD m d0 = (a, b)) (hS : S ≠ H) :
    HeapAt (((w.setCell ⟨S, 0, none⟩ (.int .i64 a)).setCell ⟨S, 1, none⟩ (.int .i64 b)).setCell ⟨H, 1, none⟩ (.slice (some ⟨S, 0, none⟩) m c)) base H fn (some ⟨S, 0, none⟩) m c (cutTop d0 L) := by
  have hS' : H ≠ S := fun e => hS e.symm
  have h1 := own_set2 h.len h.own 0 (by omega) a b
  rw [Nat.zero_mul, Nat.zero_add] at h1
  have h2 := own_short (m := m) (by rw [List.length_set]; exact h.len) h1 (by omega)
  have hb := blk_far (blk_far h.blk hS' (.int .i64 a) (p := ⟨S, 0, none⟩)) hS' (.int .i64 b) (p := ⟨S, 1, none⟩)
  have e : cutTop d0 L = (L.set 0 (a, b)).take m := by unfold cutTop; rw [h.len, Nat.add_sub_cancel, hx]
  refine ⟨h.hb, ?_, ?_, ?_⟩
  · exact blk_set hb 1 _
  · rw [e]; exact h2.setCell (h2.ne_ hb (by decide)) _
  · rw [cutTop_len, h.len]; omega

/-- which of the two under i is the least -/
structure Pick (lt : Pop → Pop → Bool) (L : List Pop) (i : Nat) (bb : Bool) : Prop where
  l : bb = false → Least d0 lt L i (2 * i + 1)
  r : bb = true → Least d0 lt L i (2 * i + 1 + 1)
/-- what Pop answers -/
def PopSays (lt : Pop → Pop → Bool) (base H : Nat) (fn : Value) (A : Option Addr) (m c : Nat) (L : List Pop) (w : World) (e : Ending) (w' : World) : Prop :=
  ∃ p q L', e = .returned (.agg #[.int .i64 p, .int .i64 q]) ∧ L.getD 0 d0 = (p, q) ∧ HeapAt w' base H fn A m c L' ∧ ((p, q) :: L').Perm L ∧ Hp d0 lt L' ∧ Kp w w' H (Value.slice A (m + 1) c).ownBlock

set_option maxRecDepth 100000 in
set_option maxHeartbeats 8000000 in
theorem pop_any (lt : Pop → Pop → Bool) (o : Ord lt) (hless : LessOk 31 lt) (base H : Nat) (A : Option Addr) (m c : Nat) (L : List Pop) (w : World) (h : HeapAt w base H (fnOf 31) A (m + 1) c L) (hp : Hp d0 lt L) (hn : (m + 1) * 16 ≤ 140737488355328) (hb : base ≤ w.heap.size) :
    Calls Try.prog 34 #[.pointer (some ⟨H, 0, none⟩)] w fun e w' => PopSays lt base H (fnOf 31) A m c L w e w' := by
  obtain ⟨S, p, q, rfl, hS0, hS1, hSH, hg0, c00, c01, f00, f01⟩ := h.at_ (show 0 < m + 1 by omega)
  obtain ⟨S', a, b, hSe, _, _, _, hgm, cm0, cm1, _, _⟩ := h.at_ (show m < m + 1 by omega)
  injection hSe with hSe
  injection hSe with hSe _ _
  subst hSe
  have hc0 := blk_cell h.blk 0
  have hc1 := blk_cell h.blk 1
  have hf1 := blk_free h.blk 1
  have hlt := h.lt
  have hne := h.ne
  obtain ⟨_, hcap⟩ : True ∧ m + 1 ≤ c := ⟨trivial, by obtain ⟨A', c', hv, hc, _⟩ := h.own.form; injection hv with _ _ hv; have := h.len; omega⟩
  simp only [List.getElem?_toArray, List.getElem?_cons_zero, List.getElem?_cons_succ] at hc0 hc1
  rw [Nat.zero_mul] at c00 c01 f00 f01
  rw [Nat.zero_add] at c01 f01
  unfold fnOf at hc0
  have b1 : (0 : Int) < (m : Int) + 1 := by omega
  have b2 : (m : Int) < (m : Int) + 1 := by omega
  have b3 : (m : Int) ≤ (c : Int) := by omega
  have b4 : m ≤ c := by omega
  have b5 : (0 : Int) ≤ (m : Int) := by omega
  have HH := Lib.hid h
  have HP := Lib.hid hp
  have HG0 := Lib.hid hg0
  have HGM := Lib.hid hgm
  have hSw := hS1
  clear h hp hg0 hgm hne
  go_enter Try.func34, Try.ntmps34
  go_wp2
  go_region
  all_goals
    go_wp2
    have hcut := (HH.out.cut HGM.out hSH)
    have hWs : (((w.setCell ⟨S, 0, none⟩ (.int .i64 a)).setCell ⟨S, 1, none⟩ (.int .i64 b)).setCell ⟨H, 1, none⟩ (.slice (some ⟨S, 0, none⟩) m c)).heap.size = w.heap.size := by simp [World.setCell]
    have hBs : Kp w (((w.setCell ⟨S, 0, none⟩ (.int .i64 a)).setCell ⟨S, 1, none⟩ (.int .i64 b)).setCell ⟨H, 1, none⟩ (.slice (some ⟨S, 0, none⟩) m c)) H (some S) := (((Kp.refl _ _ _).setCell (by exact .inr (.inl rfl)) _).setCell (by exact .inr (.inl rfl)) _).setCell (by exact .inl rfl) _
    have hdn := cutTop_dn HP.out
    have hpc := cutTop_perm (d := d0) (L := L) (fun e => by have := HH.out.len; rw [e] at this; simp at this)
    rw [HG0.out] at hpc
    have HCUT := Lib.hid hcut
    have HDN0 := Lib.hid hdn
    have HPC := Lib.hid hpc
    have HO := Lib.hid o
    have HL := Lib.hid hless
    generalize (((w.setCell ⟨S, 0, none⟩ (.int .i64 a)).setCell ⟨S, 1, none⟩ (.int .i64 b)).setCell ⟨H, 1, none⟩ (.slice (some ⟨S, 0, none⟩) m c)) = W0 at *
    have hR0 := blk_alloc (heap_alloc_new W0 (.cells #[.int .i64 0, .int .i64 0] 77)) (.cells #[.int .i64 p, .int .i64 q] 77)
    have hR1 := heap_alloc_new (W0.alloc (.cells #[.int .i64 0, .int .i64 0] 77)) (.cells #[.int .i64 p, .int .i64 q] 77)
    have hz1 : (W0.alloc (.cells #[.int .i64 0, .int .i64 0] 77)).heap.size = w.heap.size + 1 := by simp [hWs]
    rw [hWs] at hR0
    rw [hz1] at hR1
    have hBx : Kp w ((W0.alloc (.cells #[.int .i64 0, .int .i64 0] 77)).alloc (.cells #[.int .i64 p, .int .i64 q] 77)) H (some S) := (hBs.alloc _).alloc _
    have HR0 := Lib.hid hR0
    have HR1 := Lib.hid hR1
    clear hcut hdn hpc o hless hR0 hR1 hz1 hBs c00 c01 f00 f01 cm0 cm1 hc0 hc1 hf1 hWs
    go_loopw [5] (fun s5 wr => ∃ (i : Nat) (L' : List Pop), i ≤ m ∧ s5 = .int .i64 i ∧ HeapAt wr base H (fnOf 31) (some ⟨S, 0, none⟩) m c L' ∧ L'.Perm (cutTop d0 L) ∧ Dn d0 lt L' i ∧ wr.heap[w.heap.size]? = some (.cells #[.int .i64 0, .int .i64 0] 77 (0, 0)) ∧ wr.heap[w.heap.size + 1]? = some (.cells #[.int .i64 p, .int .i64 q] 77 (0, 0)) ∧ Kp w wr H (some S)) (fun s5 _ => m - (intOf s5).toNat)
    case atStart => exact ⟨0, cutTop d0 L, Nat.zero_le _, rfl, ((HCUT.out.alloc _).alloc _).drewN 1, List.Perm.refl _, HDN0.out, HR0.out, HR1.out, hBx.drew⟩
    case round =>
      obtain ⟨i, L2, him0, rfl, hh, hpm, hdn, hR2, hR3, hB⟩ := hrel
      have HPM := Lib.hid hpm
      have HDN := Lib.hid hdn
      clear HCUT HDN0 HR0 HR1 hBx hpm hdn
      by_cases hk : 2 * i + 1 < m
      · have HR2 := Lib.hid hR2
        have HR3 := Lib.hid hR3
        have HHr := Lib.hid hh
        have c0 := blk_cell hh.blk 0
        have c1 := blk_cell hh.blk 1
        simp only [List.getElem?_toArray, List.getElem?_cons_zero, List.getElem?_cons_succ] at c0 c1
        unfold fnOf at c0
        have hHs := hh.lt
        have hSs : S < wr.heap.size := by have := lt_of_block hR2; omega
        have hi2 : 2 * (i : Int) + 1 < m := by omega
        clear hR2 hR3
        go_upto_region 8 with fail
        obtain ⟨k1, hk1⟩ : ∃ k1 : Nat, k1 = 2 * i + 1 := ⟨_, rfl⟩
        have hk1e : 2 * (i : Int) + 1 = (k1 : Int) := by omega
        rw [hk1e] at *
        have HK1 := Lib.hid hk1
        have hk1m : k1 < m := by omega
        clear hk hk1 hk1e
        go_cut [73] from 48 to 73 (fun s73 wx => ∃ bb, s73 = .bool bb ∧ Pick lt L2 i bb ∧ HeapAt wx base H (fnOf 31) (some ⟨S, 0, none⟩) m c L2 ∧ wx.heap[w.heap.size]? = some (.cells #[.int .i64 0, .int .i64 0] 77 (0, 0)) ∧ wx.heap[w.heap.size + 1]? = some (.cells #[.int .i64 p, .int .i64 q] 77 (0, 0)) ∧ Kp w wx H (some S))
        case first =>
          by_cases hg : k1 + 1 < m
          · have hk2m : (k1 : Int) + 1 < m := by omega
            have hwr : IntKind.i64.wrap ((k1 : Int) + 1) = (k1 : Int) + 1 := IntWalk.i64_in _ (by omega)
            obtain ⟨T, a1, e1, hTe, _, _, _, hg1, c10, c11, _, _⟩ := hh.at_ hg
            injection hTe with hTe
            injection hTe with hTe _ _
            subst hTe
            obtain ⟨T, a0, e0, hTe, _, _, _, hg0', c00, c01, _, _⟩ := hh.at_ hk1m
            injection hTe with hTe
            injection hTe with hTe _ _
            subst hTe
            have y1 : (k1 : Int) < m := by omega
            have y2 : ¬ ((k1 : Int) < 0) := by omega
            have y3 : ¬ ((k1 : Int) + 1 < 0) := by omega
            have y4 : (0 : Int) ≤ (k1 : Int) + 1 := by omega
            have hl := fun W => HL.out W a1 e1 a0 e0
            have hlen := hh.len
            have HG1 := Lib.hid hg1
            have HGZ := Lib.hid hg0'
            have HLEN := Lib.hid hlen
            generalize hbb : lt (a1, e1) (a0, e0) = bb at hl
            have KL := Lib.hid hl
            have HBB := Lib.hid hbb
            clear hg1 hg0' hl hbb hh hlen
            go_region_held3 (fun w' => w'.cell? ⟨H, 0, none⟩ = some (.func (.func 31) #[] #[]) ∧ w'.cell? ⟨H, 1, none⟩ = some (.slice (some ⟨S, 0, none⟩) m c) ∧ w'.cell? ⟨S, (k1 + 1) * 2, none⟩ = some (.int .i64 a1) ∧ w'.cell? ⟨S, (k1 + 1) * 2 + 1, none⟩ = some (.int .i64 e1) ∧ w'.cell? ⟨S, k1 * 2, none⟩ = some (.int .i64 a0) ∧ w'.cell? ⟨S, k1 * 2 + 1, none⟩ = some (.int .i64 e0))
              (first
                | go_keep
                | (go_split_ands
                   refine ⟨?_, ?_, ?_, ?_, ?_, ?_⟩
                   · (rw [cH]; assumption)
                   · (rw [cH]; assumption)
                   · (rw [cS]; assumption)
                   · (rw [cS]; assumption)
                   · (rw [cS]; assumption)
                   · (rw [cS]; assumption)))
              (first
                | (go_at_call 31; refine (KL.out _).mono ?_; rintro e w5 ⟨rfl, hb5⟩; have cH := (keepAt hb5 (b := H) hHs).1; have cS := (keepAt hb5 (b := S) hSs).1))
            all_goals
              clear cH cS
              have hb6 : Below wr.heap.size wr w5 := by first | exact hb5 | exact (Below.refl _ _).drew.trans hb5
              have hl0 : bb = false → Least d0 lt L2 i (2 * i + 1) := fun hf => by
                refine least_left HO.out (by have := HLEN.out; have := HK1.out; omega) (fun _ => ?_)
                have q1 := HG1.out
                have q0 := HGZ.out
                rw [HK1.out] at q1 q0
                rw [show 2 * i + 2 = 2 * i + 1 + 1 from rfl, q1, q0, HBB.out]
                exact hf
              have hl1 : bb = true → Least d0 lt L2 i (2 * i + 1 + 1) := fun ht => by
                refine least_right HO.out (by have := HLEN.out; have := HK1.out; omega) ?_
                have q1 := HG1.out
                have q0 := HGZ.out
                rw [HK1.out] at q1 q0
                rw [show 2 * i + 2 = 2 * i + 1 + 1 from rfl, q1, q0, HBB.out]
                exact ht
              have hh5 := HHr.out.keep hb6
              have hB5 := hB.below hb6
              have hR5 := blk_below HR2.out hb6 (lt_of_block HR2.out)
              have hR6 := blk_below HR3.out hb6 (lt_of_block HR3.out)
              have HL0 := Lib.hid hl0
              have HL1 := Lib.hid hl1
              clear hb5 hb6 hl0 hl1
              go_wp2_with fail
              go_meet
              first | exact ⟨bb, rfl, ⟨HL0.out, HL1.out⟩, hh5, hR5, hR6, hB5⟩ | exact ⟨⟨HL0.out, HL1.out⟩, hh5, hR5, hR6, hB5⟩ | exact ⟨bb, by simp, ⟨HL0.out, HL1.out⟩, hh5, hR5, hR6, hB5⟩
          · have hd : decide ((k1 : Int) + 1 < m) = false := by simp; omega
            have hwr : IntKind.i64.wrap ((k1 : Int) + 1) = (k1 : Int) + 1 := IntWalk.i64_in _ (by omega)
            have hlen := hh.len
            have hl0 : Least d0 lt L2 i (2 * i + 1) := least_left HO.out (by have := HK1.out; omega) (fun h => absurd h (by have := HK1.out; omega))
            have HL0 := Lib.hid hl0
            clear hl0 hlen hh
            go_quiet (fail)
            go_wp2_with fail
            go_meet
            first | exact ⟨false, rfl, ⟨fun _ => HL0.out, fun h => by cases h⟩, HHr.out.drewN _, HR2.out, HR3.out, ⟨hB.os, hB.tape, hB.output, hB.size, hB.block⟩⟩ | exact ⟨⟨fun _ => HL0.out, fun h => by cases h⟩, HHr.out.drewN _, HR2.out, HR3.out, ⟨hB.os, hB.tape, hB.output, hB.size, hB.block⟩⟩
        case rest =>
          obtain ⟨bb, rfl, ⟨hl0, hl1⟩, hh2, hR2, hR3, hB2⟩ := hcut
          clear c0 c1 hHs hSs hB hh HHr HR2 HR3
          have hwr : IntKind.i64.wrap ((k1 : Int) + 1) = (k1 : Int) + 1 := IntWalk.i64_in _ (by omega)
          cases bb with
          | false =>
            have hL0 := hl0 rfl
            have HL0 := Lib.hid hL0
            clear hl0 hl1 hL0
            go_upto_region 10 with fail
            have hL : Least d0 lt L2 i k1 := by rw [HK1.out]; exact HL0.out
            obtain ⟨kk, hkk⟩ : ∃ kk : Nat, k1 = kk := ⟨_, rfl⟩
            rw [hkk] at hL ⊢
            have hkm : kk < m := by have := hL.kl; rw [hh2.len] at this; exact this
            have him : i < m := by omega
            have hik : i < kk := by have h0 := hL.k0; have h1 := par_lt h0; have h2 := hL.kp; omega
            obtain ⟨T, a2, e2, hTe, _, _, _, hg2, c20, c21, f20, f21⟩ := hh2.at_ hkm
            injection hTe with hTe
            injection hTe with hTe _ _
            subst hTe
            obtain ⟨T, a3, e3, hTe, _, _, _, hg3, c30, c31, f30, f31⟩ := hh2.at_ him
            injection hTe with hTe
            injection hTe with hTe _ _
            subst hTe
            have d0' := blk_cell hh2.blk 0
            have d1' := blk_cell hh2.blk 1
            simp only [List.getElem?_toArray, List.getElem?_cons_zero, List.getElem?_cons_succ] at d0' d1'
            unfold fnOf at d0'
            have hHs := hh2.lt
            have hSs : S < wc.heap.size := by have := hR2; have := lt_of_block this; omega
            have y1 : (kk : Int) < m := by omega
            have y2 : (i : Int) < m := by omega
            have y3 : ¬ ((kk : Int) < 0) := by omega
            have y4 : ¬ ((i : Int) < 0) := by omega
            have hne1 : ¬ i * 2 = kk * 2 := by have := hL.k0; have := par_lt this; have := hL.kp; omega
            have hne2 : ¬ i * 2 + 1 = kk * 2 + 1 := by omega
            have hne3 : ¬ i * 2 + 1 = kk * 2 := by omega
            have hne4 : ¬ i * 2 = kk * 2 + 1 := by omega
            have hl := fun W => HL.out W a2 e2 a3 e3
            have HH2 := Lib.hid hh2
            have HG2 := Lib.hid hg2
            have HG3 := Lib.hid hg3
            have HLS := Lib.hid hL
            have HR2 := Lib.hid hR2
            have HR3 := Lib.hid hR3
            clear hg2 hg3 hh2 hL hkk hwr hR2 hR3
            cases hlt2 : lt (a2, e2) (a3, e3) with
            | false =>
              simp only [hlt2] at hl
              have KL := Lib.hid hl
              have HLT := Lib.hid hlt2
              clear hl hlt2
              go_wp2
              go_region_held3 (fun w' => w'.cell? ⟨H, 0, none⟩ = some (.func (.func 31) #[] #[]) ∧ w'.cell? ⟨H, 1, none⟩ = some (.slice (some ⟨S, 0, none⟩) m c) ∧ w'.cell? ⟨S, kk * 2, none⟩ = some (.int .i64 a2) ∧ w'.cell? ⟨S, kk * 2 + 1, none⟩ = some (.int .i64 e2) ∧ w'.cell? ⟨S, i * 2, none⟩ = some (.int .i64 a3) ∧ w'.cell? ⟨S, i * 2 + 1, none⟩ = some (.int .i64 e3))
                (first
                  | go_keep
                  | (go_split_ands
                     refine ⟨?_, ?_, ?_, ?_, ?_, ?_⟩
                     · (rw [cH]; assumption)
                     · (rw [cH]; assumption)
                     · (rw [cS]; assumption)
                     · (rw [cS]; assumption)
                     · (rw [cS]; assumption)
                     · (rw [cS]; assumption)))
                (first
                  | (go_at_call 31; refine (KL.out _).mono ?_; rintro e w5 ⟨rfl, hb5⟩; have cH := (keepAt hb5 (b := H) hHs).1; have cS := (keepAt hb5 (b := S) hSs).1))
              all_goals
                clear cH cS
                have hb6 : Below wc.heap.size wc w5 := by first | exact hb5 | exact (Below.refl _ _).drew.trans hb5
                have hfin := HDN.out.done HO.out HLS.out (by rw [HG2.out, HG3.out]; exact HLT.out)
                have hh5 := HH2.out.keep hb6
                have hB5 := hB2.below hb6
                have hR5 := blk_below HR2.out hb6 (lt_of_block HR2.out)
                have hR6 := blk_below HR3.out hb6 (lt_of_block HR3.out)
                have r0 := blk_cell hR5 0
                have r1 := blk_cell hR5 1
                have r2 := blk_cell hR6 0
                have r3 := blk_cell hR6 1
                have g0 := blk_free hR5 0
                have g1 := blk_free hR5 1
                simp only [List.getElem?_toArray, List.getElem?_cons_zero, List.getElem?_cons_succ] at r0 r1 r2 r3
                clear hb5 hb6 hR6
                go_wp2
                refine bodyPost_ret (v := .agg #[.int .i64 p, .int .i64 q]) (by simp [results, Try.results34, go_sem, r0, r1, r2, r3, g0, g1]) rfl ?_
                exact ⟨p, q, L2, rfl, HG0.out, ⟨hh5.hb, blk_far (blk_far hh5.blk (by dsimp only; omega) _) (by dsimp only; omega) _, (hh5.own.setCell (by simp [Value.ownBlock]; omega) _).setCell (by simp [Value.ownBlock]; omega) _, hh5.len⟩, (List.Perm.cons _ HPM.out).trans HPC.out, hfin, (hB5.setCell (by exact .inr (.inr (Nat.le_refl _))) _).setCell (by exact .inr (.inr (Nat.le_refl _))) _⟩
            | true =>
              simp only [hlt2] at hl
              have KL := Lib.hid hl
              have HLT := Lib.hid hlt2
              clear hl hlt2
              go_wp2
              go_region_held3 (fun w' => w'.cell? ⟨H, 0, none⟩ = some (.func (.func 31) #[] #[]) ∧ w'.cell? ⟨H, 1, none⟩ = some (.slice (some ⟨S, 0, none⟩) m c) ∧ w'.cell? ⟨S, kk * 2, none⟩ = some (.int .i64 a2) ∧ w'.cell? ⟨S, kk * 2 + 1, none⟩ = some (.int .i64 e2) ∧ w'.cell? ⟨S, i * 2, none⟩ = some (.int .i64 a3) ∧ w'.cell? ⟨S, i * 2 + 1, none⟩ = some (.int .i64 e3))
                (first
                  | go_keep
                  | (go_split_ands
                     refine ⟨?_, ?_, ?_, ?_, ?_, ?_⟩
                     · (rw [cH]; assumption)
                     · (rw [cH]; assumption)
                     · (rw [cS]; assumption)
                     · (rw [cS]; assumption)
                     · (rw [cS]; assumption)
                     · (rw [cS]; assumption)))
                (first
                  | (go_at_call 31; refine (KL.out _).mono ?_; rintro e w5 ⟨rfl, hb5⟩; have cH := (keepAt hb5 (b := H) hHs).1; have cS := (keepAt hb5 (b := S) hSs).1))
              all_goals
                clear cH cS
                have hb6 : Below wc.heap.size wc w5 := by first | exact hb5 | exact (Below.refl _ _).drew.trans hb5
                have hh5 := HH2.out.keep hb6
                have hB5 := hB2.below hb6
                have hR5 := blk_below HR2.out hb6 (lt_of_block HR2.out)
                have hR6 := blk_below HR3.out hb6 (lt_of_block HR3.out)
                obtain ⟨cH, fH⟩ := keepAt hb6 (b := H) hHs
                obtain ⟨cS, fS⟩ := keepAt hb6 (b := S) hSs
                have u0 := (cH 1).trans d1'
                have u1 := (cS _).trans c20
                have u2 := (cS _).trans c21
                have u3 := (cS _).trans c30
                have u4 := (cS _).trans c31
                have u5 := (fS _).trans f20
                have u6' := (fS _).trans f21
                have u7' := (fS _).trans f30
                have u8' := (fS _).trans f31
                have HH5 := Lib.hid hh5
                have HR5 := Lib.hid hR5
                have HR6 := Lib.hid hR6
                clear hb5 hb6 cH fH cS fS d0' d1' c20 c21 c30 c31 f20 f21 f30 f31 hh5 hR5 hR6
                go_wp2
                go_region
                all_goals
                  go_wp2
                  go_roundw
                  case' rel =>
                    have hln : L2.length = m := HH5.out.len
                    have hst := HDN.out.step HO.out HLS.out (by rw [HG2.out, HG3.out]; exact HLT.out)
                    exact ⟨kk, swp d0 L2 i kk, by omega, rfl, (HH5.out.swap him hkm HG3.out HG2.out hSH).drewN 1, (swp_perm (by omega) (by omega) (by omega)).trans HPM.out, hst, blk_far (blk_far (blk_far (blk_far HR5.out (by dsimp only; omega) _) (by dsimp only; omega) _) (by dsimp only; omega) _) (by dsimp only; omega) _, blk_far (blk_far (blk_far (blk_far HR6.out (by dsimp only; omega) _) (by dsimp only; omega) _) (by dsimp only; omega) _) (by dsimp only; omega) _, ((((hB5.setCell (by exact .inr (.inl rfl)) _).setCell (by exact .inr (.inl rfl)) _).setCell (by exact .inr (.inl rfl)) _).setCell (by exact .inr (.inl rfl)) _).drew⟩
                  case' measure => simp [intOf]; omega
          | true =>
            have hL0 := hl1 rfl
            have HL0 := Lib.hid hL0
            clear hl0 hl1 hL0
            go_upto_region 10 with fail
            obtain ⟨kk, hkk⟩ : ∃ kk : Nat, kk = k1 + 1 := ⟨_, rfl⟩
            have hke : (k1 : Int) + 1 = (kk : Int) := by omega
            have hL : Least d0 lt L2 i kk := by rw [hkk, HK1.out]; exact HL0.out
            rw [hke]
            have hkm : kk < m := by have := hL.kl; rw [hh2.len] at this; exact this
            have him : i < m := by omega
            have hik : i < kk := by have h0 := hL.k0; have h1 := par_lt h0; have h2 := hL.kp; omega
            obtain ⟨T, a2, e2, hTe, _, _, _, hg2, c20, c21, f20, f21⟩ := hh2.at_ hkm
            injection hTe with hTe
            injection hTe with hTe _ _
            subst hTe
            obtain ⟨T, a3, e3, hTe, _, _, _, hg3, c30, c31, f30, f31⟩ := hh2.at_ him
            injection hTe with hTe
            injection hTe with hTe _ _
            subst hTe
            have d0' := blk_cell hh2.blk 0
            have d1' := blk_cell hh2.blk 1
            simp only [List.getElem?_toArray, List.getElem?_cons_zero, List.getElem?_cons_succ] at d0' d1'
            unfold fnOf at d0'
            have hHs := hh2.lt
            have hSs : S < wc.heap.size := by have := hR2; have := lt_of_block this; omega
            have y1 : (kk : Int) < m := by omega
            have y2 : (i : Int) < m := by omega
            have y3 : ¬ ((kk : Int) < 0) := by omega
            have y4 : ¬ ((i : Int) < 0) := by omega
            have hne1 : ¬ i * 2 = kk * 2 := by have := hL.k0; have := par_lt this; have := hL.kp; omega
            have hne2 : ¬ i * 2 + 1 = kk * 2 + 1 := by omega
            have hne3 : ¬ i * 2 + 1 = kk * 2 := by omega
            have hne4 : ¬ i * 2 = kk * 2 + 1 := by omega
            have hl := fun W => HL.out W a2 e2 a3 e3
            have HH2 := Lib.hid hh2
            have HG2 := Lib.hid hg2
            have HG3 := Lib.hid hg3
            have HLS := Lib.hid hL
            have HR2 := Lib.hid hR2
            have HR3 := Lib.hid hR3
            clear hg2 hg3 hh2 hL hkk hke hwr hR2 hR3
            cases hlt2 : lt (a2, e2) (a3, e3) with
            | false =>
              simp only [hlt2] at hl
              have KL := Lib.hid hl
              have HLT := Lib.hid hlt2
              clear hl hlt2
              go_wp2
              go_region_held3 (fun w' => w'.cell? ⟨H, 0, none⟩ = some (.func (.func 31) #[] #[]) ∧ w'.cell? ⟨H, 1, none⟩ = some (.slice (some ⟨S, 0, none⟩) m c) ∧ w'.cell? ⟨S, kk * 2, none⟩ = some (.int .i64 a2) ∧ w'.cell? ⟨S, kk * 2 + 1, none⟩ = some (.int .i64 e2) ∧ w'.cell? ⟨S, i * 2, none⟩ = some (.int .i64 a3) ∧ w'.cell? ⟨S, i * 2 + 1, none⟩ = some (.int .i64 e3))
                (first
                  | go_keep
                  | (go_split_ands
                     refine ⟨?_, ?_, ?_, ?_, ?_, ?_⟩
                     · (rw [cH]; assumption)
                     · (rw [cH]; assumption)
                     · (rw [cS]; assumption)
                     · (rw [cS]; assumption)
                     · (rw [cS]; assumption)
                     · (rw [cS]; assumption)))
                (first
                  | (go_at_call 31; refine (KL.out _).mono ?_; rintro e w5 ⟨rfl, hb5⟩; have cH := (keepAt hb5 (b := H) hHs).1; have cS := (keepAt hb5 (b := S) hSs).1))
              all_goals
                clear cH cS
                have hb6 : Below wc.heap.size wc w5 := by first | exact hb5 | exact (Below.refl _ _).drew.trans hb5
                have hfin := HDN.out.done HO.out HLS.out (by rw [HG2.out, HG3.out]; exact HLT.out)
                have hh5 := HH2.out.keep hb6
                have hB5 := hB2.below hb6
                have hR5 := blk_below HR2.out hb6 (lt_of_block HR2.out)
                have hR6 := blk_below HR3.out hb6 (lt_of_block HR3.out)
                have r0 := blk_cell hR5 0
                have r1 := blk_cell hR5 1
                have r2 := blk_cell hR6 0
                have r3 := blk_cell hR6 1
                have g0 := blk_free hR5 0
                have g1 := blk_free hR5 1
                simp only [List.getElem?_toArray, List.getElem?_cons_zero, List.getElem?_cons_succ] at r0 r1 r2 r3
                clear hb5 hb6 hR6
                go_wp2
                refine bodyPost_ret (v := .agg #[.int .i64 p, .int .i64 q]) (by simp [results, Try.results34, go_sem, r0, r1, r2, r3, g0, g1]) rfl ?_
                exact ⟨p, q, L2, rfl, HG0.out, ⟨hh5.hb, blk_far (blk_far hh5.blk (by dsimp only; omega) _) (by dsimp only; omega) _, (hh5.own.setCell (by simp [Value.ownBlock]; omega) _).setCell (by simp [Value.ownBlock]; omega) _, hh5.len⟩, (List.Perm.cons _ HPM.out).trans HPC.out, hfin, (hB5.setCell (by exact .inr (.inr (Nat.le_refl _))) _).setCell (by exact .inr (.inr (Nat.le_refl _))) _⟩
            | true =>
              simp only [hlt2] at hl
              have KL := Lib.hid hl
              have HLT := Lib.hid hlt2
              clear hl hlt2
              go_wp2
              go_region_held3 (fun w' => w'.cell? ⟨H, 0, none⟩ = some (.func (.func 31) #[] #[]) ∧ w'.cell? ⟨H, 1, none⟩ = some (.slice (some ⟨S, 0, none⟩) m c) ∧ w'.cell? ⟨S, kk * 2, none⟩ = some (.int .i64 a2) ∧ w'.cell? ⟨S, kk * 2 + 1, none⟩ = some (.int .i64 e2) ∧ w'.cell? ⟨S, i * 2, none⟩ = some (.int .i64 a3) ∧ w'.cell? ⟨S, i * 2 + 1, none⟩ = some (.int .i64 e3))
                (first
                  | go_keep
                  | (go_split_ands
                     refine ⟨?_, ?_, ?_, ?_, ?_, ?_⟩
                     · (rw [cH]; assumption)
                     · (rw [cH]; assumption)
                     · (rw [cS]; assumption)
                     · (rw [cS]; assumption)
                     · (rw [cS]; assumption)
                     · (rw [cS]; assumption)))
                (first
                  | (go_at_call 31; refine (KL.out _).mono ?_; rintro e w5 ⟨rfl, hb5⟩; have cH := (keepAt hb5 (b := H) hHs).1; have cS := (keepAt hb5 (b := S) hSs).1))
              all_goals
                clear cH cS
                have hb6 : Below wc.heap.size wc w5 := by first | exact hb5 | exact (Below.refl _ _).drew.trans hb5
                have hh5 := HH2.out.keep hb6
                have hB5 := hB2.below hb6
                have hR5 := blk_below HR2.out hb6 (lt_of_block HR2.out)
                have hR6 := blk_below HR3.out hb6 (lt_of_block HR3.out)
                obtain ⟨cH, fH⟩ := keepAt hb6 (b := H) hHs
                obtain ⟨cS, fS⟩ := keepAt hb6 (b := S) hSs
                have u0 := (cH 1).trans d1'
                have u1 := (cS _).trans c20
                have u2 := (cS _).trans c21
                have u3 := (cS _).trans c30
                have u4 := (cS _).trans c31
                have u5 := (fS _).trans f20
                have u6' := (fS _).trans f21
                have u7' := (fS _).trans f30
                have u8' := (fS _).trans f31
                have HH5 := Lib.hid hh5
                have HR5 := Lib.hid hR5
                have HR6 := Lib.hid hR6
                clear hb5 hb6 cH fH cS fS d0' d1' c20 c21 c30 c31 f20 f21 f30 f31 hh5 hR5 hR6
                go_wp2
                go_region
                all_goals
                  go_wp2
                  go_roundw
                  case' rel =>
                    have hln : L2.length = m := HH5.out.len
                    have hst := HDN.out.step HO.out HLS.out (by rw [HG2.out, HG3.out]; exact HLT.out)
                    exact ⟨kk, swp d0 L2 i kk, by omega, rfl, (HH5.out.swap him hkm HG3.out HG2.out hSH).drewN 1, (swp_perm (by omega) (by omega) (by omega)).trans HPM.out, hst, blk_far (blk_far (blk_far (blk_far HR5.out (by dsimp only; omega) _) (by dsimp only; omega) _) (by dsimp only; omega) _) (by dsimp only; omega) _, blk_far (blk_far (blk_far (blk_far HR6.out (by dsimp only; omega) _) (by dsimp only; omega) _) (by dsimp only; omega) _) (by dsimp only; omega) _, ((((hB5.setCell (by exact .inr (.inl rfl)) _).setCell (by exact .inr (.inl rfl)) _).setCell (by exact .inr (.inl rfl)) _).setCell (by exact .inr (.inl rfl)) _).drew⟩
                  case' measure => simp [intOf]; omega
      · have hln := hh.len
        have hfin := HDN.out.leaf (by omega)
        have r0 := blk_cell hR2 0
        have r1 := blk_cell hR2 1
        have r2 := blk_cell hR3 0
        have r3 := blk_cell hR3 1
        have g0 := blk_free hR2 0
        have g1 := blk_free hR2 1
        simp only [List.getElem?_toArray, List.getElem?_cons_zero, List.getElem?_cons_succ] at r0 r1 r2 r3
        have hd : ¬ (2 * (i : Int) + 1 < m) := by omega
        have HHr := Lib.hid hh
        have hHl := hh.lt
        have hwl := lt_of_block hR2
        clear hh hln hR2 hR3
        go_wp2
        refine bodyPost_ret (v := .agg #[.int .i64 p, .int .i64 q]) (by simp [results, Try.results34, go_sem, r0, r1, r2, r3, g0, g1]) rfl ?_
        exact ⟨p, q, L2, rfl, HG0.out, ⟨HHr.out.hb, blk_far (blk_far HHr.out.blk (by dsimp only; omega) _) (by dsimp only; omega) _, (HHr.out.own.setCell (by simp [Value.ownBlock]; omega) _).setCell (by simp [Value.ownBlock]; omega) _, HHr.out.len⟩, (List.Perm.cons _ HPM.out).trans HPC.out, hfin, (hB.setCell (by exact .inr (.inr (Nat.le_refl _))) _).setCell (by exact .inr (.inr (Nat.le_refl _))) _⟩
end Go.Proofs.Ytjebckehmmbkbaa.Heap
