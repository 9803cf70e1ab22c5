/- The walks of FloydWidth's closure and of slices.ContainsFunc with it. -/
import Derived.Test.YtdgglgiafmndnaaNetTurn
namespace Go.Proofs.Ytdgglgiafmndnaa.WidthFn
open Go.RowKit Go.Proofs.Ytdgglgiafmndnaa NetLaw Go.Proofs.Ytdgglgiafmndnaa.Net
set_option linter.unusedSimpArgs false
set_option linter.unusedVariables false

theorem isw_any (gw : Nat) (x : Int) (f t k : Int) (w : World) (h : w.cell? ⟨gw, 0, none⟩ = some (.int .i64 x)) (hg : gw < w.heap.size) :
    Calls Try.prog 37 #[.agg #[.int .i64 f, .int .i64 t, .int .i64 k], .pointer (some ⟨gw, 0, none⟩)] w fun e w' => e = .returned (.bool (k == x)) ∧ Below w.heap.size w w' := by
  go_enter Try.func37, Try.ntmps37
  go_wp2
  go_ret
  exact ⟨rfl, (Below.refl _ _).alloc (Nat.le_refl _) _⟩

def fnw (gw : Nat) : Value := .func (.func 37) #[] #[.pointer (some ⟨gw, 0, none⟩)]

set_option maxRecDepth 100000 in
set_option maxHeartbeats 1000000 in
theorem indexW_fn (gw : Nat) (x : Int) (A : Option Addr) (c : Nat) (l : List E) (w : World) (h : w.cell? ⟨gw, 0, none⟩ = some (.int .i64 x)) (hg : gw < w.heap.size) (hl : Sl w w.heap.size 3 ce A l) (hlen : l.length ≤ 600) (hex : ∃ e ∈ l, e.2.2 = x) :
    Calls Try.prog 69 #[.slice A l.length c, fnw gw] w fun e w' => ∃ r : Nat, e = .returned (.int .i64 r) ∧ Below w.heap.size w w' := by
  unfold fnw
  go_enter Try.func69, Try.ntmps69
  go_wp2
  go_loopw [8] (fun i wr => ∃ k : Nat, k ≤ l.length ∧ i = .int .i64 k ∧ (∃ e ∈ l.drop k, e.2.2 = x) ∧ Below w.heap.size w wr) (fun i _ => l.length - (intOf i).toNat)
  case atStart => exact ⟨0, Nat.zero_le _, rfl, by simpa using hex, Below.refl _ _⟩
  case round =>
    obtain ⟨k, hk, rfl, hex1, hB⟩ := hrel
    by_cases hlt : k < l.length
    · obtain ⟨b, off, f, t, cc, rfl, hbB, he, hcf, hct, hcc⟩ := (hl.keep hB (Nat.le_refl _)).atE hlt
      have hC := isw_any gw x f t cc wr (((keepN hB).1 _ _ hg).trans h) (Nat.lt_of_lt_of_le hg hB.size)
      have hnx : cc ≠ x → ∃ e ∈ l.drop (k + 1), e.2.2 = x := fun hn => by
        obtain ⟨e, hm, hi⟩ := hex1
        rw [List.drop_eq_getElem_cons hlt, he] at hm
        rcases List.mem_cons.1 hm with rfl | hm
        · exact absurd hi hn
        · exact ⟨e, hm, hi⟩
      have HN := Lib.hid hnx
      clear hnx he hex1 h hl hex
      by_cases hx : cc = x
      · have hb : (cc == x) = true := by simp [hx]
        rw [hb] at hC
        have KC := Lib.hid hC
        clear hC hx hb
        go_wp2_with fail
        refine KC.out.mono ?_
        rintro e w2 ⟨rfl, hB2⟩
        have B2 := hB.trans (hB2.mono hB.size)
        clear hB2
        go_wp2
        go_ret
        exact ⟨k, rfl, B2⟩
      · have hb : (cc == x) = false := by simp [hx]
        rw [hb] at hC
        have KC := Lib.hid hC
        have HX := Lib.hid hx
        clear hC hb hx
        go_wp2_with fail
        refine KC.out.mono ?_
        rintro e w2 ⟨rfl, hB2⟩
        have B2 := hB.trans (hB2.mono hB.size)
        clear hB2
        go_wp2
        go_roundw
        case rel => exact ⟨k + 1, by omega, by go_num, HN.out HX.out, B2⟩
        case measure => simp [intOf]; omega
    · obtain rfl : k = l.length := by omega
      obtain ⟨e, hm, _⟩ := hex1
      rw [List.drop_length] at hm
      exact absurd hm (by simp)

theorem containsW_fn (gw : Nat) (x : Int) (A : Option Addr) (c : Nat) (l : List E) (w : World) (h : w.cell? ⟨gw, 0, none⟩ = some (.int .i64 x)) (hg : gw < w.heap.size) (hl : Sl w w.heap.size 3 ce A l) (hlen : l.length ≤ 600) (hex : ∃ e ∈ l, e.2.2 = x) :
    Calls Try.prog 36 #[.slice A l.length c, fnw gw] w fun e w' => e = .returned (.bool true) ∧ Below w.heap.size w w' := by
  have key := indexW_fn gw x A c l w h hg hl hlen hex
  unfold fnw at key ⊢
  have KEY := Lib.hid key
  clear key h hl hex
  go_enter Try.func36, Try.ntmps36
  go_wp2_with fail
  refine KEY.out.mono ?_
  rintro e w1 ⟨r, rfl, hB⟩
  go_wp2
  go_ret
  exact ⟨ret_bool (by simp), hB⟩
end Go.Proofs.Ytdgglgiafmndnaa.WidthFn
