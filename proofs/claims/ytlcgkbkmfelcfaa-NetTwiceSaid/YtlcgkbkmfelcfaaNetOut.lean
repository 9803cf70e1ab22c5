/- The walk of net.Out, of a right net and a place of it. -/
import Derived.Test.YtlcgkbkmfelcfaaNetOuts
namespace Go.Proofs.Ytlcgkbkmfelcfaa.Net
open Go.RowKit Go.Proofs.Ytlcgkbkmfelcfaa NetLaw
set_option linter.unusedSimpArgs false
set_option linter.unusedVariables false
set_option maxHeartbeats 1000000 in
theorem out_yes (n : Nat) (A : Option Addr) (c : Nat) (l : List E) (v : Nat) (w : World) (hl : Sl w w.heap.size 3 ce A l) (hg : NetLaw.Good n l) (hv : v < n) :
    Calls Try.prog 38 #[.agg #[.int .i64 n, .slice A l.length c], .int .i64 v] w fun e w' => ∃ A' c', e = .returned (.tuple #[.slice A' (ol l l.length v).length c', .int .i64 0]) ∧ Own w' w.heap.size 3 1 ci (.slice A' (ol l l.length v).length c') (ol l l.length v) ∧ Below w.heap.size w w' := by
  have hw1 : Below w.heap.size w (w.alloc (.cells #[.int .i64 n, .slice A l.length c] 24)) := (Below.refl _ _).alloc (Nat.le_refl _) _
  have h6 := hg.len
  have key := fun W hs => check_any n A c l W hs (by omega)
  rw [chk_zero.2 hg] at key
  have KEY := Lib.hid key
  have ko := fun W h => outs_any n A c l W h hg
  have KO := Lib.hid ko
  clear key ko hg h6
  go_enter Try.func38, Try.ntmps38
  go_wp2_with fail
  refine (KEY.out _ ((hl.keep hw1 (Nat.le_refl _)).more (by simp))).mono ?_
  rintro e w1 ⟨rfl, hb1⟩
  have B1 : Below (w.heap.size + 1) _ w1 := hb1.mono (by simp)
  have z1 : w.heap.size + 1 ≤ w1.heap.size := by have := hb1.size; simp at this; omega
  have H1 : Below w.heap.size w w1 := hw1.trans (B1.mono (by omega))
  obtain ⟨c1, _⟩ := keepAt B1 (Nat.lt_succ_self _)
  have q0 := c1 0
  have q1 := c1 1
  simp at q0 q1
  have zw : w.heap.size < w1.heap.size := by omega
  have hs1 := (hl.keep H1 (Nat.le_refl _)).more (show w.heap.size ≤ w1.heap.size by omega)
  have hlt : decide ((v : Int) < n) = true := decide_eq_true (by omega)
  clear c1 hb1 B1 hl hw1
  go_wp2_with fail
  refine (KO.out _ hs1).mono ?_
  rintro e w2 ⟨S, F, rfl, htab, hb2⟩
  obtain ⟨sc, sf⟩ := htab.cell hv
  have hS := htab.lt
  have ho := htab.own v hv
  have H2 := H1.trans (hb2.mono (by omega))
  generalize (F v).1 = A2 at *
  generalize (F v).2 = c2 at *
  generalize hlo : ol l l.length v = lo at *
  have HLO := Lib.hid hlo
  clear hlo
  obtain ⟨m, hm⟩ : ∃ m, lo.length = m := ⟨_, rfl⟩
  rw [hm] at sc ho
  have HM := Lib.hid hm
  clear hm htab hb2 H1 hs1 q0 q1
  go_wp2
  go_ret2
  rw [HLO.out, HM.out]
  exact ⟨A2, c2, rfl, ho.mono (by omega), H2⟩
end Go.Proofs.Ytlcgkbkmfelcfaa.Net
