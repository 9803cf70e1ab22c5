/- The walks of NetGround's closure and of slices.ContainsFunc with it. -/
import Derived.Test.YtjdpmkcfllpgaaaNetTurn
import Derived.Test.YtjdpmkcfllpgaaaStdE
namespace Go.Proofs.Ytjdpmkcfllpgaaa.GroundFn
open Go.RowKit Go.Proofs.Ytjdpmkcfllpgaaa NetLaw Go.Proofs.Ytjdpmkcfllpgaaa.Net Go.Proofs.Ytjdpmkcfllpgaaa.Std
set_option linter.unusedSimpArgs false
set_option linter.unusedVariables false

theorem notin_any (gk : Nat) (N : Int) (A : Option Addr) (c : Nat) (r : List E) (f t k : Int) (w : World) (h1 : w.cell? ⟨gk, 1, none⟩ = some (.slice A r.length c)) (hg : gk < w.heap.size) (hl : Sl w w.heap.size 3 ce A r) (hlen : r.length ≤ 9223372036854775807) (hm : (f, t, k) ∈ r) :
    Calls Try.prog 19 #[.agg #[.int .i64 f, .int .i64 t, .int .i64 k], .pointer (some ⟨gk, 0, none⟩)] w fun e w' => e = .returned (.bool false) ∧ Below w.heap.size w w' := by
  have hw0 : Below w.heap.size w (w.alloc (.cells #[.int .i64 f, .int .i64 t, .int .i64 k] 35)) := (Below.refl _ _).alloc (Nat.le_refl _) _
  have key := contains_edge A c r f t k _ ((hl.keep hw0 (Nat.le_refl _)).more (show w.heap.size ≤ (w.alloc (.cells #[.int .i64 f, .int .i64 t, .int .i64 k] 35)).heap.size by simp)) hlen
  rw [decide_eq_true hm] at key
  have KEY := Lib.hid key
  clear key hl hm
  go_enter Try.func19, Try.ntmps19
  go_wp2_with fail
  refine KEY.out.mono ?_
  rintro e w1 ⟨rfl, hb⟩
  have H1 := hw0.trans (hb.mono (by simp))
  clear hb
  go_wp2
  go_ret
  exact ⟨rfl, H1⟩

def fng (gk : Nat) : Value := .func (.func 19) #[] #[.pointer (some ⟨gk, 0, none⟩)]

set_option maxRecDepth 100000 in
set_option maxHeartbeats 1000000 in
theorem indexG_fn (gk : Nat) (N : Int) (A5 : Option Addr) (c5 : Nat) (r : List E) (A : Option Addr) (c : Nat) (l : List E) (w : World) (h1 : w.cell? ⟨gk, 1, none⟩ = some (.slice A5 r.length c5)) (hg : gk < w.heap.size) (hr : Sl w w.heap.size 3 ce A5 r) (hrl : r.length ≤ 9223372036854775807) (hl : Sl w w.heap.size 3 ce A l) (hlen : l.length ≤ 600) (hall : ∀ e ∈ l, e ∈ r) :
    Calls Try.prog 54 #[.slice A l.length c, fng gk] w fun e w' => e = .returned (.int .i64 (-1)) ∧ Below w.heap.size w w' := by
  unfold fng
  go_enter Try.func54, Try.ntmps54
  go_wp2
  go_loopw [8] (fun i wr => ∃ k : Nat, k ≤ l.length ∧ i = .int .i64 k ∧ Below w.heap.size w wr) (fun i _ => l.length - (intOf i).toNat)
  case atStart => exact ⟨0, Nat.zero_le _, rfl, Below.refl _ _⟩
  case round =>
    obtain ⟨k, hk, rfl, hB⟩ := hrel
    by_cases hlt : k < l.length
    · obtain ⟨b, off, f, t, cc, rfl, hbB, he, hcf, hct, hcc⟩ := (hl.keep hB (Nat.le_refl _)).atE hlt
      have hm := hall _ (List.getElem_mem hlt)
      rw [he] at hm
      have hC := notin_any gk N A5 c5 r f t cc wr (((keepN hB).1 _ _ hg).trans h1) (Nat.lt_of_lt_of_le hg hB.size) ((hr.keep hB (Nat.le_refl _)).more hB.size) hrl hm
      have KC := Lib.hid hC
      clear hC hm he h1 hr hl hall
      go_wp2_with fail
      refine KC.out.mono ?_
      rintro e w2 ⟨rfl, hB2⟩
      have B2 := hB.trans (hB2.mono hB.size)
      clear hB2
      go_wp2
      go_roundw
      case rel => exact ⟨k + 1, by omega, by go_num, B2⟩
      case measure => simp [intOf]; omega
    · obtain rfl : k = l.length := by omega
      clear h1 hr hl hall
      go_wp2
      go_ret
      exact ⟨rfl, hB⟩

theorem containsG_fn (gk : Nat) (N : Int) (A5 : Option Addr) (c5 : Nat) (r : List E) (A : Option Addr) (c : Nat) (l : List E) (w : World) (h1 : w.cell? ⟨gk, 1, none⟩ = some (.slice A5 r.length c5)) (hg : gk < w.heap.size) (hr : Sl w w.heap.size 3 ce A5 r) (hrl : r.length ≤ 9223372036854775807) (hl : Sl w w.heap.size 3 ce A l) (hlen : l.length ≤ 600) (hall : ∀ e ∈ l, e ∈ r) :
    Calls Try.prog 18 #[.slice A l.length c, fng gk] w fun e w' => e = .returned (.bool false) ∧ Below w.heap.size w w' := by
  have key := indexG_fn gk N A5 c5 r A c l w h1 hg hr hrl hl hlen hall
  unfold fng at key ⊢
  have KEY := Lib.hid key
  clear key h1 hr hl hall
  go_enter Try.func18, Try.ntmps18
  go_wp2_with fail
  refine KEY.out.mono ?_
  rintro e w1 ⟨rfl, hB⟩
  go_wp2
  go_ret
  exact ⟨ret_bool (by simp), hB⟩
end Go.Proofs.Ytjdpmkcfllpgaaa.GroundFn
