/- The walks of bell.Relax and bell.Dist. -/
import Derived.Test.YtlcgkbkmfelcfaaNetTurn
import Derived.Test.YtlcgkbkmfelcfaaBellLaw
import Derived.Test.YtlcgkbkmfelcfaaStdR
import Derived.Test.YtlcgkbkmfelcfaaGridOver
import Derived.Deep.OwnRows
import Derived.BigRegion
import Derived.BigQuiet
namespace Go.Proofs.Ytlcgkbkmfelcfaa.Bell
open Go.RowKit Go.Proofs.Ytlcgkbkmfelcfaa NetLaw BellLaw Go.Proofs.Ytlcgkbkmfelcfaa.Net Go.Proofs.Ytlcgkbkmfelcfaa.Std
set_option linter.unusedSimpArgs false
set_option linter.unusedVariables false

/-- the rounds' memory -/
structure Rel (w : World) (S n cd : Nat) (A : Option Addr) (c : Nat) (m : Nat) (wr : World) (D P : List Int) : Prop where
  d : Own wr S 3 1 ci (.slice (some ⟨S, 0, none⟩) n cd) D
  p : Own wr (w.heap.size + 1) 3 1 ci (.slice (some ⟨w.heap.size + 1, 0, none⟩) n n) P
  dl : D.length = n
  pl : P.length = n
  b : wr.heap[w.heap.size]? = some (.cells #[.int .i64 n, .slice A m c] 24 (0, 0))
  lo : Below S w wr
  sz : w.heap.size + 2 ≤ wr.heap.size
section
variable {w wr : World} {S n cd c m : Nat} {A : Option Addr} {D P : List Int}
theorem Rel.alloc (h : Rel w S n cd A c m wr D P) (hS : S < w.heap.size) (o : Obj) : Rel w S n cd A c m (wr.alloc o) D P :=
  ⟨h.d.alloc o, h.p.alloc o, h.dl, h.pl, blk_alloc h.b o, h.lo.alloc (by have := h.sz; omega) o, by have := h.sz; simp; omega⟩
theorem Rel.drewN (h : Rel w S n cd A c m wr D P) (k : Nat) : Rel w S n cd A c m (wr.drewN k) D P :=
  ⟨h.d.drewN k, h.p.drewN k, h.dl, h.pl, h.b, below_drewN h.lo k, h.sz⟩
theorem Rel.setD (h : Rel w S n cd A c m wr D P) (hS : S < w.heap.size) (t : Nat) (x : Int) : Rel w S n cd A c m (wr.setCell ⟨S, t, none⟩ (.int .i64 x)) (D.set t x) P :=
  ⟨own_set1 h.dl h.d t x, h.p.setCell (by simp [Value.ownBlock]; omega) _, by simp [h.dl], h.pl, blk_far h.b (by dsimp only; omega) _, h.lo.setCell (Nat.le_refl _) _, by have := h.sz; simpa [World.setCell] using this⟩
theorem Rel.setP (h : Rel w S n cd A c m wr D P) (hS : S < w.heap.size) (t : Nat) (x : Int) : Rel w S n cd A c m (wr.setCell ⟨w.heap.size + 1, t, none⟩ (.int .i64 x)) D (P.set t x) :=
  ⟨h.d.setCell (by simp [Value.ownBlock]; omega) _, own_set1 h.pl h.p t x, h.dl, by simp [h.pl], blk_far h.b (by dsimp only; omega) _, h.lo.setCell (by dsimp only; omega) _, by have := h.sz; simpa [World.setCell] using this⟩
end
theorem fill_step (n k : Nat) (x z : Int) (h : k < n) : (List.replicate k x ++ List.replicate (n - k) z).set k x = List.replicate (k + 1) x ++ List.replicate (n - (k + 1)) z := by
  obtain ⟨m, rfl⟩ : ∃ m, n = k + 1 + m := ⟨n - (k + 1), by omega⟩
  rw [show k + 1 + m - k = m + 1 by omega, show k + 1 + m - (k + 1) = m by omega, List.replicate_succ, List.set_append_right _ _ (by simp)]
  simp [List.replicate_succ', List.append_assoc]
/-- no value below -C -/
def Lb (n : Nat) (D : List Int) (C : Int) : Prop := ∀ v, v < n → -C ≤ D.getD v 0
theorem Lb.more {n : Nat} {D : List Int} {C C' : Int} (h : Lb n D C) (hC : C ≤ C') : Lb n D C' := fun v hv => by have := h v hv; omega
theorem Lb.set {n : Nat} {D : List Int} {C : Int} (h : Lb n D C) (hl : D.length = n) {t : Nat} (ht : t < n) {x : Int} (hx : -C ≤ x) : Lb n (D.set t x) C := fun v hv => by
  rw [List.getD_eq_getElem?_getD]
  by_cases e : t = v
  · subst e; rw [List.getElem?_set_self (by omega)]; exact hx
  · rw [List.getElem?_set_ne e]; have := h v hv; rwa [List.getD_eq_getElem?_getD] at this
theorem take_foldl {l : List E} {k : Nat} (h : k < l.length) (s : St) : (l.take (k + 1)).foldl rx s = rx ((l.take k).foldl rx s) l[k] := by
  rw [List.take_succ_eq_append_getElem h, List.foldl_append]; rfl

set_option maxRecDepth 100000 in
set_option maxHeartbeats 4000000 in
theorem relax_any (n : Nat) (A : Option Addr) (c : Nat) (l : List E) (S cd : Nat) (D0 : List Int) (w : World) (hS : S < w.heap.size) (hl : Sl w S 3 ce A l) (hD : Own w S 3 1 ci (.slice (some ⟨S, 0, none⟩) n cd) D0) (hDn : D0.length = n)
    (h1 : 1 ≤ n) (h64 : n ≤ 64) (h600 : l.length ≤ 600) (hends : ∀ e ∈ l, 0 ≤ e.1 ∧ e.1 < n ∧ 0 ≤ e.2.1 ∧ e.2.1 < n) (hcost : ∀ e ∈ l, -10000 ≤ e.2.2 ∧ e.2.2 ≤ 10000) (hlb : Lb n D0 1000000000000) :
    Calls Try.prog 58 #[.agg #[.int .i64 n, .slice A l.length c], .slice (some ⟨S, 0, none⟩) n cd] w fun e w' => ∃ D P last, relax l n (D0, List.replicate n (-1), -1) = (D, P, last) ∧
      e = .returned (.tuple #[.slice (some ⟨w.heap.size + 1, 0, none⟩) n n, .int .i64 last]) ∧ Rel w S n cd A c l.length w' D P := by
  have hmk : ∀ w, (Instr.makeSlice 25 (.int .i64 (n : Int)) (.int .i64 (n : Int))).run Try.prog w = .ok (.slice (some ⟨w.heap.size, 0, none⟩) n n) (w.alloc (.cells (madeCells #[.int .i64 0] n) 3)) :=
    run_make_row' (P := Try.prog) 25 3 (.int .i64 0) 8 Try.underlying25 (by kernel_rfl) rfl .i64 .i64 n (by omega) (by omega)
  have rel0 : Rel w S n cd A c l.length ((w.alloc (.cells #[.int .i64 n, .slice A l.length c] 24)).alloc (.cells (madeCells #[.int .i64 0] n) 3)) D0 (List.replicate n 0) :=
    ⟨(hD.alloc _).alloc _, Grid.own_made n _ _ (by simp) h64 (by simp), hDn, by simp, blk_alloc (heap_alloc_new _ _) _, ((Below.refl _ _).alloc (by omega) _).alloc (by simp; omega) _, by simp⟩
  have REL0 := Lib.hid rel0
  have HDN := Lib.hid hDn
  clear rel0 hDn hD
  go_enter Try.func58, Try.ntmps58
  go_wp2
  go_loopw [16] (fun i wr => ∃ k : Nat, k ≤ n ∧ i = .int .i64 k ∧ Rel w S n cd A c l.length wr D0 (List.replicate k (-1) ++ List.replicate (n - k) 0)) (fun i _ => n - (intOf i).toNat)
  case atStart => exact ⟨0, Nat.zero_le _, rfl, by simpa using REL0.out⟩
  case round =>
    obtain ⟨k, hk, rfl, hrl⟩ := hrel
    by_cases hlt : k < n
    · obtain ⟨pc, pf⟩ := own_at1 (by have := hrl.pl; exact this) hrl.p hlt
      have HR := Lib.hid hrl
      clear hrl
      go_wp2
      go_roundw
      case rel => exact ⟨k + 1, by omega, by go_num, by rw [← fill_step n k (-1) 0 hlt]; exact HR.out.setP hS k _⟩
      case measure => simp [intOf]; omega
    · obtain rfl : n = k := by omega
      rw [Nat.sub_self, List.replicate_zero, List.append_nil] at hrl
      have b0 := blk_cell hrl.b 0
      simp only [List.getElem?_toArray, List.getElem?_cons_zero, List.getElem?_cons_succ] at b0
      have HR := Lib.hid hrl
      clear hlt REL0 hrl HDN
      go_wp2
      go_loopw [8, 25] (fun s8 i wr => ∃ (r : Nat) (D P : List Int) (last : Int), r ≤ n ∧ i = .int .i64 r ∧ s8 = .int .i64 last ∧ Rel w S n cd A c l.length wr D P ∧ relax l n (D0, List.replicate n (-1), -1) = relax l (n - r) (D, P, last) ∧ Lb n D (1000000000000 + r * 6000000)) (fun _ i _ => n - (intOf i).toNat)
      case atStart => exact ⟨0, D0, _, -1, Nat.zero_le _, rfl, rfl, HR.out, rfl, hlb.more (by omega)⟩
      case round =>
        obtain ⟨r, D, P, last, hr, rfl, rfl, hrl, hre, hlbr⟩ := hrel
        have b0 := blk_cell hrl.b 0
        have b1 := blk_cell hrl.b 1
        simp only [List.getElem?_toArray, List.getElem?_cons_zero, List.getElem?_cons_succ] at b0 b1
        have HRE := Lib.hid hre
        have HRL := Lib.hid hrl
        have HLB := Lib.hid hlbr
        clear hre hrl hlbr HR hlb
        by_cases hlt : r < n
        · go_wp2
          go_loopw [8, 30] (fun s8 i wr => ∃ (k : Nat) (D1 P1 : List Int) (last1 : Int), k ≤ l.length ∧ i = .int .i64 k ∧ s8 = .int .i64 last1 ∧ Rel w S n cd A c l.length wr D1 P1 ∧ (l.take k).foldl rx (D, P, -1) = (D1, P1, last1) ∧ Lb n D1 (1000000000000 + r * 6000000 + k * 10000)) (fun _ i _ => l.length - (intOf i).toNat)
          case atStart => exact ⟨0, D, P, -1, Nat.zero_le _, rfl, rfl, HRL.out, rfl, HLB.out.more (by omega)⟩
          case round =>
            obtain ⟨k, D1, P1, last1, hk, rfl, rfl, hrl, hfo, hlbr⟩ := hrel
            by_cases hltk : k < l.length
            · obtain ⟨b, off, f, t, cc, rfl, hbB, he, hcf, hct, hcc⟩ := (hl.keep hrl.lo (Nat.le_refl _)).atE hltk
              have hst := take_foldl hltk (D, P, -1)
              rw [hfo, he] at hst
              have hen := hends _ (List.getElem_mem hltk)
              have hco := hcost _ (List.getElem_mem hltk)
              rw [he] at hen hco
              obtain ⟨f0, f1, t0, t1⟩ := hen
              obtain ⟨c0, c1⟩ := hco
              simp only at f0 f1 t0 t1 c0 c1
              obtain ⟨f, rfl⟩ := Int.eq_ofNat_of_zero_le f0
              obtain ⟨t, rfl⟩ := Int.eq_ofNat_of_zero_le t0
              have f2 : f < n := by omega
              have t2 : t < n := by omega
              have hbw : b < w.heap.size := by omega
              have hsz := hrl.sz
              have hSr : S < wr.heap.size := by omega
              have hPr : w.heap.size + 1 < wr.heap.size := by omega
              have hBr : b < wr.heap.size := by omega
              have hSP : ¬ w.heap.size + 1 = S := by omega
              have hSP2 : ¬ S = w.heap.size + 1 := by omega
              obtain ⟨xc, xf⟩ := own_at1 hrl.dl hrl.d f2
              obtain ⟨yc, yf⟩ := own_at1 hrl.dl hrl.d t2
              obtain ⟨pc, pf⟩ := own_at1 hrl.pl hrl.p t2
              have hlx := hlbr f f2
              have HRL1 := Lib.hid hrl
              have HLB1 := Lib.hid hlbr
              obtain ⟨x, hx⟩ : ∃ x, D1.getD f 0 = x := ⟨_, rfl⟩
              obtain ⟨y, hy⟩ : ∃ y, D1.getD t 0 = y := ⟨_, rfl⟩
              rw [hx] at xc hlx
              rw [hy] at yc
              have hst2 : (l.take (k + 1)).foldl rx (D, P, -1) = if x < far ∧ x + cc < y then (D1.set t (x + cc), P1.set t f, (t : Int)) else (D1, P1, last1) := by rw [hst, rx]; simp only [dg, Int.toNat_natCast, hx, hy]
              have HST := Lib.hid hst2
              clear hst hst2 hx hy he hrl hlbr hl hfo f0 t0 f1 t1 hcost hends HRE b0 b1
              have hr64 : r ≤ 64 := by omega
              by_cases hxf : x < 1099511627776
              · have hbd : -2000000000000 ≤ x := by omega
                by_cases hxy : x + cc < y
                · have hfin := HST.out
                  rw [if_pos ⟨hxf, hxy⟩] at hfin
                  have HFIN := Lib.hid hfin
                  clear HST hfin
                  go_wp2
                  go_quiet (fail)
                  go_wp2
                  go_region
                  go_wp2
                  go_roundw
                  case rel => exact ⟨k + 1, D1.set t (x + cc), P1.set t f, t, by omega, by go_num, rfl, ((((HRL1.out.alloc hS _).drewN _).drewN 1).setD hS t (x + cc)).setP hS t f, HFIN.out, (HLB1.out.more (by omega)).set HRL1.out.dl t2 (by omega)⟩
                  case measure => simp [intOf]; omega
                · have hfin := HST.out
                  rw [if_neg (fun h => hxy h.2)] at hfin
                  have HFIN := Lib.hid hfin
                  clear HST hfin
                  go_wp2
                  go_quiet (fail)
                  go_wp2
                  go_roundw
                  case rel => exact ⟨k + 1, D1, P1, last1, by omega, by go_num, rfl, (HRL1.out.alloc hS _).drewN _, HFIN.out, HLB1.out.more (by omega)⟩
                  case measure => simp [intOf]; omega
              · have hfin := HST.out
                rw [if_neg (fun h => hxf h.1)] at hfin
                have HFIN := Lib.hid hfin
                have hd : decide (x < 1099511627776) = false := by simp; omega
                clear HST hfin hxf
                go_wp2
                go_quiet (fail)
                go_wp2
                go_roundw
                case rel => exact ⟨k + 1, D1, P1, last1, by omega, by go_num, rfl, (HRL1.out.alloc hS _).drewN _, HFIN.out, HLB1.out.more (by omega)⟩
                case measure => simp [intOf]; omega
            · obtain rfl : k = l.length := by omega
              rw [List.take_length] at hfo
              have HFO := Lib.hid (show pass l (D, P, last) = (D1, P1, last1) from hfo)
              have HRL1 := Lib.hid hrl
              have HLB1 := Lib.hid hlbr
              clear hrl hfo hlbr hl
              have hm1 : n - r = n - (r + 1) + 1 := by omega
              have HM1 := Lib.hid hm1
              clear hm1
              by_cases hneg : last1 < 0
              · go_wp2
                go_ret2
                refine ⟨D1, P1, last1, ?_, rfl, HRL1.out⟩
                rw [HRE.out, HM1.out, relax, HFO.out, if_pos hneg]
              · go_wp2
                go_roundw
                case rel =>
                  refine ⟨r + 1, D1, P1, last1, by omega, by go_num, rfl, HRL1.out, ?_, HLB1.out.more (by omega)⟩
                  rw [HRE.out, HM1.out, relax, HFO.out, if_neg hneg]
                case measure => simp [intOf]; omega
        · obtain rfl : r = n := by omega
          go_wp2
          go_ret2
          refine ⟨D, P, last, ?_, rfl, HRL.out⟩
          rw [HRE.out, Nat.sub_self, relax]

/-- where all starts -/
def start (n fr : Nat) : List Int := (List.replicate n far).set fr 0
theorem start_len (n fr : Nat) : (start n fr).length = n := by simp [start]
theorem start_lb (n fr : Nat) (h : fr < n) : Lb n (start n fr) 1000000000000 := by
  refine Lb.set (fun v hv => ?_) (by simp) h (by decide)
  rw [List.getD_eq_getElem?_getD, List.getElem?_replicate, if_pos hv]
  simp [far]
/-- what Relax answers -/
def rl (n : Nat) (l : List E) (fr : Nat) : St := relax l n (start n fr, List.replicate n (-1), -1)
/-- the fault that Dist tells -/
def derr (N : Int) (l : List E) (fr : Int) : Int := if chk N l ≠ 0 then chk N l else if fr < 0 ∨ N ≤ fr then 1 else if 0 ≤ (rl N.toNat l fr.toNat).2.2 then 6 else 0
/-- what Dist answers -/
def DistSays (N : Int) (l : List E) (fr : Int) (w : World) (e : Ending) (w' : World) : Prop :=
  (derr N l fr ≠ 0 → e = .returned (.tuple #[.slice none 0 0, .int .i64 (derr N l fr)])) ∧
  (derr N l fr = 0 → ∃ S, w.heap.size ≤ S ∧ e = .returned (.tuple #[.slice (some ⟨S, 0, none⟩) N.toNat N.toNat, .int .i64 0]) ∧ Own w' w.heap.size 3 1 ci (.slice (some ⟨S, 0, none⟩) N.toNat N.toNat) (rl N.toNat l fr.toNat).1 ∧ (rl N.toNat l fr.toNat).1.length = N.toNat) ∧ Below w.heap.size w w'

end Go.Proofs.Ytlcgkbkmfelcfaa.Bell
