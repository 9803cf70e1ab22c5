/- The walks of package net: what each function answers. -/
/- The walks of net.Turned and net.Turn. -/
import Derived.Test.YtpoolpaagbeokaaVSlice
import Derived.Test.YtpoolpaagbeokaaVDijkMoreLaw
namespace Go.Proofs.Ytpoolpaagbeokaa.Net
open Go.RowKit Go.Proofs.Ytpoolpaagbeokaa NetLaw
set_option linter.unusedSimpArgs false
set_option linter.unusedVariables false

set_option maxHeartbeats 400000 in
theorem check_any (N : Int) (A : Option Addr) (c : Nat) (l : List E) (w : World) (hl : Sl w w.heap.size 3 ce A l) (hlen : l.length ≤ 9223372036854775807) :
    Calls Try.prog 76 #[.agg #[.int .i64 N, .slice A l.length c]] w fun e w' => e = .returned (.int .i64 (chk N l)) ∧ Below w.heap.size w w' := by
  by_cases h1 : N < 1 ∨ 64 < N
  · have hfin : chk N l = 1 := by rw [chk, if_pos h1]
    rw [hfin]
    clear hfin hl
    rcases (show N < 1 ∨ (1 ≤ N ∧ 64 < N) from by omega) with h | h
    all_goals
      go_enter Try.func76, Try.ntmps76
      go_wp2
      go_ret
      exact ⟨rfl, (Below.refl _ _).alloc (Nat.le_refl _) _⟩
  · by_cases h2 : 600 < l.length
    · have hfin : chk N l = 2 := by rw [chk, if_neg h1, if_pos h2]
      rw [hfin]
      clear hfin hl
      go_enter Try.func76, Try.ntmps76
      go_wp2
      go_ret
      exact ⟨rfl, (Below.refl _ _).alloc (Nat.le_refl _) _⟩
    · have hfin : chk N l = chkE N l := by rw [chk, if_neg h1, if_neg h2]
      rw [hfin]
      clear hfin hlen
      have h3 : 1 ≤ N := by omega
      have h4 : N ≤ 64 := by omega
      have h5 : l.length ≤ 600 := by omega
      clear h1 h2
      go_enter Try.func76, Try.ntmps76
      go_wp2
      go_loopw [20] (fun i wr => ∃ k : Nat, k ≤ l.length ∧ i = .int .i64 k ∧ chkE N l = chkE N (l.drop k) ∧ Below (w.heap.size + 1) (w.alloc (.cells #[.int .i64 N, .slice A l.length c] 52)) wr) (fun i _ => l.length - (intOf i).toNat)
      case atStart => exact ⟨0, Nat.zero_le _, rfl, rfl, Below.refl _ _⟩
      case round =>
        obtain ⟨k, hk, rfl, hchk, hB⟩ := hrel
        have HC := Lib.hid hchk
        clear hchk
        by_cases hlt : k < l.length
        · have hl2 := (hl.keep ((Below.refl _ _).alloc (Nat.le_refl _) _) (Nat.le_refl _)).keep hB (Nat.le_succ _)
          obtain ⟨b, off, f, t, cc, rfl, hbB, he, hcf, hct, hcc⟩ := hl2.atE hlt
          have hs : chkE N l = if f < 0 ∨ N ≤ f ∨ t < 0 ∨ N ≤ t then 1 else if cc < -10000 ∨ 10000 < cc then 4 else chkE N (l.drop (k + 1)) := by
            have h9 := chkE_drop N l k hlt
            rw [he, ← HC.out] at h9
            exact h9
          have HS := Lib.hid hs
          clear he hl2 hl hs HC
          obtain ⟨c1, f1⟩ := keepN hB
          have hsz : w.heap.size < wr.heap.size := by have := hB.size; simp at this; omega
          have hE := (((Below.refl _ _).alloc (Nat.le_refl _) _).trans (hB.mono (Nat.le_succ _))).alloc (by omega) (.cells #[.int .i64 f, .int .i64 t, .int .i64 cc] 110)
          go_wp2
          all_goals first
            | (go_ret
               exact ⟨ret_int (by have e := HS.out; first | (rw [if_pos (by omega)] at e; exact e.symm) | (rw [if_neg (by omega), if_pos (by omega)] at e; exact e.symm)), hE⟩)
            | (go_roundw
               case rel => exact ⟨k + 1, by omega, by go_num, by have e := HS.out; rw [if_neg (by omega), if_neg (by omega)] at e; exact e, hB.alloc (by omega) _⟩
               case measure => simp [intOf]; omega)
        · obtain rfl : k = l.length := by omega
          have hz : chkE N l = 0 := by rw [HC.out, List.drop_length]; rfl
          have HZ := Lib.hid hz
          clear hz HC hl
          have hE := ((Below.refl _ _).alloc (Nat.le_refl _) _).trans (hB.mono (Nat.le_succ _))
          go_wp2
          go_ret
          exact ⟨ret_int HZ.out.symm, hE⟩
end Go.Proofs.Ytpoolpaagbeokaa.Net

namespace Go.Proofs.Ytpoolpaagbeokaa.Net
open Go.RowKit Go.Proofs.Ytpoolpaagbeokaa NetLaw
set_option linter.unusedSimpArgs false
set_option linter.unusedVariables false

theorem blk_set {w : World} {g : Nat} {t : TypeId} {cs : Array Value} (h : w.heap[g]? = some (.cells cs t (0, 0))) (i : Nat) (u : Value) : (w.setCell ⟨g, i, none⟩ u).heap[g]? = some (.cells (cs.setIfInBounds i u) t (0, 0)) := by
  simp [World.setCell, Array.getElem?_modify, h]
theorem blk_cell {w : World} {g : Nat} {t : TypeId} {cs : Array Value} (h : w.heap[g]? = some (.cells cs t (0, 0))) (i : Nat) : w.cell? ⟨g, i, none⟩ = cs[i]? := cell_of_row w g i cs t (0, 0) h
theorem blk_free {w : World} {g : Nat} {t : TypeId} {cs : Array Value} (h : w.heap[g]? = some (.cells cs t (0, 0))) (i : Nat) : w.frozen? ⟨g, i, none⟩ = false := by simp [World.frozen?, h]

theorem blk_alloc {w : World} {g : Nat} {o : Obj} (h : w.heap[g]? = some o) (o' : Obj) : (w.alloc o').heap[g]? = some o := (Below.heap_alloc _ _ _ (lt_of_block h)).trans h
theorem blk_grown {w w1 : World} {g : Nat} {o : Obj} {row : Option Nat} (h : w.heap[g]? = some o) (hg : w.grownBy w1 row) (hne : row ≠ some g) : w1.heap[g]? = some o := (hg.block g (lt_of_block h) (fun e => hne e.symm)).trans h
theorem blk_far {w : World} {g : Nat} {o : Obj} (h : w.heap[g]? = some o) {p : Addr} (hne : g ≠ p.block) (u : Value) : (w.setCell p u).heap[g]? = some o := (Below.heap_setCell _ _ _ _ hne).trans h
theorem blk_below {w w1 : World} {g B : Nat} {o : Obj} (h : w.heap[g]? = some o) (hb : Below B w w1) (hB : g < B) : w1.heap[g]? = some o := (hb.block g hB).trans h
theorem news3' {w : World} {e : TypeId} {x y z : Int} {g : Nat} (hg : w.heap.size = g) : ∀ j, j < 3 → (w.alloc (.cells #[.int .i64 x, .int .i64 y, .int .i64 z] e)).cell? ⟨g, j, none⟩ = some (ce (x, y, z) j) := by
  subst hg
  exact news3
/-- the edges turned -/
def tl (l : List E) : List E := l.map fun e => (e.2.1, e.1, e.2.2)
theorem tl_len (l : List E) : (tl l).length = l.length := by simp [tl]
theorem tl_succ {l : List E} {k : Nat} (h : k < l.length) {f t c : Int} (he : l[k] = (f, t, c)) : tl (l.take (k + 1)) = tl (l.take k) ++ [(t, f, c)] := by
  rw [List.take_succ_eq_append_getElem h, he]
  simp [tl]
theorem infoEdge : (Try.prog.info? 110).map (fun i => (i.zero, i.size, i.bytes)) = some (some (.agg #[.int .i64 0, .int .i64 0, .int .i64 0]), 3, 24) := by kernel_rfl
/-- a net that a call answers, its edges the call's own -/
def SomeNet (N : Int) (l : List E) (w : World) (e : Ending) (w' : World) : Prop :=
  ∃ A c, e = .returned (.agg #[.int .i64 N, .slice A l.length c]) ∧ Own w' w.heap.size 110 3 ce (.slice A l.length c) l ∧ Below w.heap.size w w'

/-- what Turn answers of a right net -/
def SomeTurn (N : Int) (l : List E) (w : World) (e : Ending) (w' : World) : Prop :=
  ∃ A c, e = .returned (.tuple #[.agg #[.int .i64 N, .slice A l.length c], .int .i64 0]) ∧ Own w' w.heap.size 110 3 ce (.slice A l.length c) l ∧ Below w.heap.size w w'

end Go.Proofs.Ytpoolpaagbeokaa.Net
