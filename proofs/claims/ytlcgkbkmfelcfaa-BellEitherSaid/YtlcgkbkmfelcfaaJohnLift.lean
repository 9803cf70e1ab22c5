/- The walk of john.Lift. -/
import Derived.Test.YtlcgkbkmfelcfaaJohnPlain
import Derived.Test.YtlcgkbkmfelcfaaBellWalks
namespace Go.Proofs.Ytlcgkbkmfelcfaa.John
open Go.RowKit Go.Proofs.Ytlcgkbkmfelcfaa NetLaw BellLaw DijkLaw JohnLaw JohnPlain Go.Proofs.Ytlcgkbkmfelcfaa.Net Go.Proofs.Ytlcgkbkmfelcfaa.Bell Go.Proofs.Ytlcgkbkmfelcfaa.Std
set_option linter.unusedSimpArgs false
set_option linter.unusedVariables false
/-- what Lift answers -/
def LiftSays (N : Int) (l : List E) (w : World) (e : Ending) (w' : World) : Prop :=
  (jerr N l ≠ 0 → e = .returned (.tuple #[.slice none 0 0, .int .i64 (jerr N l)])) ∧
  (jerr N l = 0 → ∃ S, e = .returned (.tuple #[.slice (some ⟨S, 0, none⟩) N.toNat N.toNat, .int .i64 0]) ∧ Own w' w.heap.size 3 1 ci (.slice (some ⟨S, 0, none⟩) N.toNat N.toNat) (hs N.toNat l).1) ∧ Below w.heap.size w w'

set_option maxRecDepth 100000 in
set_option maxHeartbeats 4000000 in
theorem lift_any (N : Int) (A : Option Addr) (c : Nat) (l : List E) (w : World) (hl : Sl w w.heap.size 3 ce A l) (hlen : l.length ≤ 9223372036854775807) :
    Calls Try.prog 32 #[.agg #[.int .i64 N, .slice A l.length c]] w fun e w' => LiftSays N l w e w' := by
  have key := fun W hs => check_any N A c l W hs hlen
  have hw0 : Below w.heap.size w (w.alloc (.cells #[.int .i64 N, .slice A l.length c] 24)) := (Below.refl _ _).alloc (Nat.le_refl _) _
  have hl0 := (hl.keep hw0 (Nat.le_refl _)).more (show w.heap.size ≤ (w.alloc (.cells #[.int .i64 N, .slice A l.length c] 24)).heap.size by simp)
  by_cases hg : chk N l = 0
  · rw [hg] at key
    have KEY := Lib.hid key
    clear key
    have hgood := chk_zero.1 hg
    have hN1 := hgood.lo
    have hN2 := hgood.hi
    obtain ⟨n, rfl⟩ := Int.eq_ofNat_of_zero_le (show 0 ≤ N by omega)
    have he : jerr n l = if 0 ≤ (hs n l).2.2 then 6 else 0 := by rw [jerr, if_neg (by simpa using hg)]; rfl
    have hmk : ∀ w, (Instr.makeSlice 25 (.int .i64 (n : Int)) (.int .i64 (n : Int))).run Try.prog w = .ok (.slice (some ⟨w.heap.size, 0, none⟩) n n) (w.alloc (.cells (madeCells #[.int .i64 0] n) 3)) :=
      run_make_row' (P := Try.prog) 25 3 (.int .i64 0) 8 Try.underlying25 (by kernel_rfl) rfl .i64 .i64 n (by omega) (by omega)
    have HE := Lib.hid he
    have HG := Lib.hid hgood
    clear he hg hgood
    go_enter Try.func32, Try.ntmps32
    go_wp2_with fail
    refine (KEY.out _ hl0).mono ?_
    rintro e w1 ⟨rfl, hb1⟩
    have B1 : Below (w.heap.size + 1) _ w1 := hb1.mono (by simp)
    have H1 := hw0.trans (B1.mono (Nat.le_succ _))
    have Z1 : w.heap.size + 1 ≤ w1.heap.size := by have := hb1.size; simp at this; omega
    have hO := blk_below (heap_alloc_new w (.cells #[.int .i64 n, .slice A l.length c] 24)) B1 (Nat.lt_succ_self _)
    have q0 := blk_cell hO 0
    have q1 := blk_cell hO 1
    simp only [List.getElem?_toArray, List.getElem?_cons_zero, List.getElem?_cons_succ] at q0 q1
    clear hb1 hl0 hO
    have own0 := Grid.own_made n w1.heap.size w1 (Nat.le_refl _) (by omega) rfl
    have H2 : Below w.heap.size w (w1.alloc (.cells (madeCells #[.int .i64 0] n) 3)) := H1.alloc (by omega) _
    have kr := fun W (hW : W = w1.alloc (.cells (madeCells #[.int .i64 0] n) 3)) => relax_any n A c l w1.heap.size n (List.replicate n 0) W (by rw [hW]; simp) (by rw [hW]; exact (hl.keep H2 (Nat.le_refl _)).more (by omega)) (by rw [hW]; exact own0) (by simp) (by omega) (by omega) HG.out.len HG.out.ends HG.out.cost (fun v hv => by rw [List.getD_eq_getElem?_getD, List.getElem?_replicate, if_pos hv]; decide)
    have KR := Lib.hid kr
    have HH2 := Lib.hid H2
    have HH1 := Lib.hid H1
    have z1 : w.heap.size < w1.heap.size := by omega
    clear kr own0 hl H2 H1 B1
    go_wp2_with fail
    refine (KR.out _ rfl).mono ?_
    rintro e w3 ⟨D, P, last, hre, rfl, hrl⟩
    have hfin := HE.out
    have hre2 : hs n l = (D, P, last) := hre
    rw [hre2] at hfin
    have H3 : Below w.heap.size w w3 := HH2.out.trans (hrl.lo.mono (by omega))
    have HRL := Lib.hid hrl
    have HRE := Lib.hid hre2
    clear hre hre2 hrl HE q0 q1 HH2 HH1
    by_cases hneg : 0 ≤ last
    · rw [if_pos hneg] at hfin
      have HF := Lib.hid hfin
      clear hfin
      go_wp2
      go_ret2
      rw [LiftSays, HF.out]
      exact ⟨fun _ => rfl, fun h => absurd h (by decide), H3⟩
    · rw [if_neg hneg] at hfin
      have HF := Lib.hid hfin
      clear hfin
      go_wp2
      go_ret2
      simp only [LiftSays, HF.out, Int.toNat_natCast, HRE.out]
      exact ⟨fun h => absurd rfl h, fun _ => ⟨w1.heap.size, rfl, HRL.out.d.mono (by omega)⟩, H3⟩
  · have he : jerr N l = chk N l := by rw [jerr, if_pos hg]
    simp only [LiftSays, he]
    have KEY := Lib.hid key
    clear key he
    have hne : (chk N l != 0) = true := by rw [bne_iff_ne]; exact hg
    generalize chk N l = x at *
    go_enter Try.func32, Try.ntmps32
    go_wp2_with fail
    refine (KEY.out _ hl0).mono ?_
    rintro e w1 ⟨rfl, hb1⟩
    have H1 := hw0.trans (hb1.mono (by simp))
    clear hl hl0 hb1
    go_wp2
    go_ret2
    exact ⟨fun _ => rfl, fun h => absurd h hg, H1⟩
end Go.Proofs.Ytlcgkbkmfelcfaa.John
