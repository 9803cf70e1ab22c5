/- The walk of flow.full. -/
import Derived.Test.YtjhnlkmdkjlkdaaVFlowSeek
import Derived.Test.YtjhnlkmdkjlkdaaVFlowPush
import Derived.BigQuiet
import Derived.Deep.LoopGhost
namespace Go.Proofs.Ytjhnlkmdkjlkdaa.Flow
open Go.RowKit Go.Proofs.Ytjhnlkmdkjlkdaa NetLaw FlowLaw FlowBfs Go.Proofs.Ytjhnlkmdkjlkdaa.Net Go.Proofs.Ytjhnlkmdkjlkdaa.Std Go.Proofs.Ytjhnlkmdkjlkdaa.Queue
set_option linter.unusedSimpArgs false
set_option linter.unusedVariables false
def FullSays (n : Nat) (l : List E) (s t : Nat) (w : World) (e : Ending) (w' : World) : Prop :=
  ∃ v Sf Sb F B od, e = .returned (.tuple #[.int .i64 v, .slice (some ⟨Sf, 0, none⟩) l.length l.length, .slice (some ⟨Sb, 0, none⟩) n n]) ∧ Own w' w.heap.size 3 1 ci (.slice (some ⟨Sf, 0, none⟩) l.length l.length) F ∧ Own w' w.heap.size 3 1 ci (.slice (some ⟨Sb, 0, none⟩) n n) B ∧ Hid (Fw l s t F v ∧ Sk n l F s B od ∧ (t : Int) ∉ od) ∧ Below w.heap.size w w'

set_option maxRecDepth 100000 in
set_option maxHeartbeats 8000000 in
theorem full_any (n s t : Nat) (A : Option Addr) (c : Nat) (l : List E) (w : World) (hl : Sl w w.heap.size 3 ce A l) (hg : NetLaw.Good n l) (hc : ∀ e ∈ l, 1 ≤ e.2.2) (hs : s < n) (ht : t < n) (hst : s ≠ t) :
    Calls Try.prog 66 #[.agg #[.int .i64 n, .slice A l.length c], .int .i64 s, .int .i64 t] w fun e w' => FullSays n l s t w e w' := by
  have hN := hg.hi
  have hlen := hg.len
  have hcap : ∀ i, i < l.length → 1 ≤ cpt l i ∧ cpt l i ≤ 10000 := fun i hi => ⟨hc _ (ed_mem hi), (hg.cost _ (ed_mem hi)).2⟩
  have hfw0 := Fw.zero (l := l) (s := (s : Int)) (t := (t : Int)) fun i hi => by have := hcap i hi; omega
  have hmk : ∀ w, (Instr.makeSlice 25 (.int .i64 (l.length : Int)) (.int .i64 (l.length : Int))).run Try.prog w = .ok (.slice (some ⟨w.heap.size, 0, none⟩) l.length l.length) (w.alloc (.cells (madeCells #[.int .i64 0] l.length) 3)) :=
    run_make_row' (P := Try.prog) 25 3 (.int .i64 0) 8 Try.underlying25 (by kernel_rfl) rfl .i64 .i64 l.length (by omega) (by omega)
  have hbx := heap_alloc_new w (.cells #[.int .i64 n, .slice A l.length c] 24)
  have own0 := own_madeI l.length (w.heap.size + 1) (w.alloc (.cells #[.int .i64 n, .slice A l.length c] 24)) (by simp) (by omega) (by simp : _ = w.heap.size + 1)
  have hkeep : ∀ W, Below (w.heap.size + 1) (w.alloc (.cells #[.int .i64 n, .slice A l.length c] 24)) W → W.cell? ⟨w.heap.size, 0, none⟩ = some (.int .i64 n) ∧ W.cell? ⟨w.heap.size, 1, none⟩ = some (.slice A l.length c) ∧ w.heap.size + 1 ≤ W.heap.size ∧ Sl W (w.heap.size + 1) 3 ce A l ∧ Below w.heap.size w W := fun W hW => by
    have hb := blk_below hbx hW (Nat.lt_succ_self _)
    have q0 := blk_cell hb 0
    have q1 := blk_cell hb 1
    simp only [List.getElem?_toArray, List.getElem?_cons_zero, List.getElem?_cons_succ] at q0 q1
    have H := ((Below.refl w.heap.size w).alloc (Nat.le_refl _) (.cells #[.int .i64 n, .slice A l.length c] 24)).trans (hW.mono (Nat.le_succ _))
    have hz := hW.size
    simp at hz
    exact ⟨q0, q1, hz, (hl.keep H (Nat.le_refl _)).more (Nat.le_succ _), H⟩
  have HK := Lib.hid hkeep
  have OWN0 := Lib.hid own0
  have FW0 := Lib.hid hfw0
  have HG := Lib.hid hg
  have HCAP := Lib.hid hcap
  clear hkeep own0 hfw0 hg hc hcap hl hbx
  have KSEEK := Lib.hid (fun W F A1 c1 h1 h2 h3 => seek_any n s A c l A1 c1 F W h1 h2 h3 HG.out hs)
  go_enter Try.func66, Try.ntmps66
  go_wp2
  go_loopg [10] 6000000 (fun g s10 wr => ∃ (v : Int) (F : List Int), s10 = .int .i64 v ∧ 0 ≤ v ∧ Hid (Own wr (w.heap.size + 1) 3 1 ci (.slice (some ⟨w.heap.size + 1, 0, none⟩) l.length l.length) F) ∧ Hid (Fw l s t F v) ∧ Hid (Below (w.heap.size + 1) (w.alloc (.cells #[.int .i64 n, .slice A l.length c] 24)) wr) ∧ 6000000 - v.toNat ≤ g ∧ g ≤ 6000000)
  case atStart => exact ⟨0, _, rfl, Int.le_refl _, OWN0, FW0, Lib.hid ((Below.refl _ _).alloc (by simp) _), by simp, Nat.le_refl _⟩
  case round =>
    obtain ⟨v, F, rfl, v0, OW, FW, HB, hg1, hg2⟩ := hrel
    clear OWN0 FW0
    obtain ⟨q0, q1, zz, sg, H⟩ := HK.out _ HB.out
    have zw : w.heap.size < wr.heap.size := by omega
    have hz1 := (OW.out.base_ _ rfl).2
    have hvb := FW.out.bd (by omega) (fun i hi => (HCAP.out i hi).2) hlen
    have ks := KSEEK.out wr F _ l.length (sg.more zz) OW.out.sl.2 FW.out.len
    have KS := Lib.hid ks
    have SG := Lib.hid sg
    clear ks sg
    go_wp2_with fail
    refine KS.out.mono ?_
    rintro e w5 ⟨Sb, B, od, rfl, ownB, SK, hb5⟩
    have HB5 := Lib.hid (HB.out.trans (hb5.mono zz))
    obtain ⟨p0, p1, zz5, sg5, H5⟩ := HK.out _ HB5.out
    have zw5 : w.heap.size < w5.heap.size := by omega
    have own5 := OW.out.keep hb5
    have hSb := ownB.base_ Sb rfl
    obtain ⟨hSb0, hSb1⟩ := hSb
    obtain ⟨bc, _⟩ := own_at1 SK.out.bl ownB ht
    have hseen := SK.out.seen (v := (t : Int)) (by omega) (by omega)
    rw [Int.toNat_natCast] at hseen
    have hB63 : -1000 ≤ B.getD t 0 ∧ B.getD t 0 ≤ 1000 := by
      by_cases hto : (t : Int) ∈ od
      · obtain ⟨k, hk, hke⟩ := List.mem_iff_getElem.1 hto
        rcases Nat.eq_zero_or_pos k with e0 | e0
        · subst e0
          have h0 := SK.out.hd
          rw [List.head?_eq_getElem?, List.getElem?_eq_getElem hk] at h0
          injection h0 with h0
          rw [hke] at h0
          exact absurd h0 (by omega)
        · obtain ⟨⟨a, _⟩, _⟩ := SK.out.via k hk e0
          rw [hke, Int.toNat_natCast] at a
          unfold ix at a
          split at a <;> omega
      · have := hseen.2 hto; omega
    have HSEEN := Lib.hid hseen
    have OWN5 := Lib.hid own5
    have OWNB := Lib.hid ownB
    have SG5 := Lib.hid sg5
    clear KS q0 q1 zz hb5 own5 ownB sg5 HB H hseen SG OW
    obtain ⟨bt, hbt⟩ : ∃ bt, B.getD t 0 = bt := ⟨_, rfl⟩
    rw [hbt] at bc hB63 HSEEN
    clear hbt
    by_cases hto : (t : Int) ∈ od
    · have hne : bt ≠ (l.length : Int) := fun e => HSEEN.out.1 e hto
      have d1 : (bt == (l.length : Int)) = false := by rw [beq_eq_false_iff_ne]; exact hne
      obtain ⟨bs, w1, w2, w3, w4⟩ := SK.out.way hto (by omega)
      obtain ⟨m1, m2, _⟩ := least_at w1 w3 FW.out.cap (fun i hi => (HCAP.out i hi).2)
      have hfw2 := FW.out.push w1 w3 w4 (fun i hi => (HCAP.out i hi).2)
      have hvb2 := hfw2.bd (by omega) (fun i hi => (HCAP.out i hi).2) hlen
      have hL0 : 0 < l.length := by
        obtain ⟨b, hb⟩ := List.exists_mem_of_ne_nil _ w3
        obtain ⟨_, a, _⟩ := w1.via b hb
        omega
      have kp := fun W (hW : Below w5.heap.size w5 W) => push_any n s t A c l (w.heap.size + 1) Sb F B bs W (SG5.out.keep (hW.mono zz5) (Nat.le_refl _)) (OWN5.out.keep hW) FW.out.len ((OWNB.out.keep hW).sl.2) SK.out.bl (by omega) HG.out ht FW.out.cap (fun i hi => (HCAP.out i hi).2) w1 w2 w3 (Nat.lt_of_lt_of_le (OWN5.out.base_ _ rfl).2 hW.size) hL0
      obtain ⟨M, hM⟩ : ∃ M, least l F bs = M := ⟨_, rfl⟩
      rw [hM] at kp m1 m2 hfw2 hvb2
      obtain ⟨F2, hF2⟩ : ∃ F2, bs.foldl (upd M) F = F2 := ⟨_, rfl⟩
      rw [hF2] at kp hfw2
      have KP := Lib.hid kp
      have FW2 := Lib.hid hfw2
      have wv : IntKind.i64.wrap (v + M) = v + M := wrap_in (by omega) (by omega)
      clear kp hM hF2 hfw2 w1 w2 w3 w4 hL0 hto hne FW KSEEK HSEEN SK SG5
      go_wp2
      go_quiet (fail)
      go_wp2_with fail
      refine (KP.out _ (below_drewN (Below.refl _ _) _)).mono ?_
      rintro e w6 ⟨rfl, own6, _, hb6⟩
      have HB6 := Lib.hid ((below_drewN HB5.out nq).trans hb6)
      have OWN6 := Lib.hid own6
      clear KP own6 hb6 HB5 OWN5 OWNB p0 p1
      go_wp2
      go_roundg (6000000 - (v + M).toNat)
      case measure => omega
      case rel => exact ⟨v + M, F2, rfl, by omega, OWN6, FW2, HB6, Nat.le_refl _, by omega⟩
    · have hbl : bt = (l.length : Int) := HSEEN.out.2 hto
      have d1 : (bt == (l.length : Int)) = true := by rw [beq_iff_eq]; exact hbl
      have HTO := Lib.hid hto
      clear hbl hto KSEEK HSEEN SG5
      go_wp2
      go_quiet (fail)
      go_wp2
      go_ret3
      exact ⟨v, w.heap.size + 1, Sb, F, B, od, rfl, (OWN5.out.mono (Nat.le_succ _)).drewN _, (OWNB.out.mono (by omega)).drewN _, Lib.hid ⟨FW.out, SK.out, HTO.out⟩, below_drewN H5 _⟩
end Go.Proofs.Ytjhnlkmdkjlkdaa.Flow
