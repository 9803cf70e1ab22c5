/- slices.IndexFunc and ContainsFunc over edges with one of the laws' closures. -/
import Derived.Test.YtjhnlkmdkjlkdaaNetTurn
import Derived.Test.YtjhnlkmdkjlkdaaStdI
namespace Go.Proofs.Ytjhnlkmdkjlkdaa.CfnKnots
open Go.RowKit Go.Proofs.Ytjhnlkmdkjlkdaa NetLaw Go.Proofs.Ytjhnlkmdkjlkdaa.Std
set_option linter.unusedSimpArgs false
set_option linter.unusedVariables false
/-- the closure's value -/
def fnv (g0 : Nat) : Value := .func (.func 26) #[] #[.pointer (some ⟨g0, 0, none⟩)]
/-- the closure answers P of each edge -/
def Ok (g0 : Nat) (l : List E) (P : E → Bool) (w : World) : Prop := ∀ W, Below w.heap.size w W → ∀ k (h : k < l.length) f t co, l[k] = (f, t, co) →
  Calls Try.prog 26 #[.agg #[.int .i64 f, .int .i64 t, .int .i64 co], .pointer (some ⟨g0, 0, none⟩)] W fun e w' => e = .returned (.bool (P (f, t, co))) ∧ Below W.heap.size W w'
set_option maxRecDepth 100000 in
set_option maxHeartbeats 1000000 in
theorem index_fn (g0 : Nat) (A : Option Addr) (c : Nat) (l : List E) (P : E → Bool) (w : World) (hl : Sl w w.heap.size 3 ce A l) (hlen : l.length ≤ 9223372036854775807) (hcl : Ok g0 l P w) :
    Calls Try.prog 60 #[.slice A l.length c, fnv g0] w fun e w' => ∃ r : Int, e = .returned (.int .i64 r) ∧ Hid (decide (0 ≤ r) = l.any P) ∧ Below w.heap.size w w' := by
  unfold fnv
  have HCL := Lib.hid hcl
  clear hcl
  go_enter Try.func60, Try.ntmps60
  go_wp2
  go_loopw [8] (fun i wr => ∃ k : Nat, k ≤ l.length ∧ i = .int .i64 k ∧ Hid ((l.take k).any P = false) ∧ Below w.heap.size w wr) (fun i _ => l.length - (intOf i).toNat)
  case atStart => exact ⟨0, Nat.zero_le _, rfl, Lib.hid (by simp), Below.refl _ _⟩
  case round =>
    obtain ⟨k, hk, rfl, hno, hB⟩ := hrel
    by_cases hlt : k < l.length
    · obtain ⟨b, off, f, t, cc, rfl, hbB, he, hcf, hct, hcc⟩ := (hl.keep hB (Nat.le_refl _)).atE hlt
      have hC := HCL.out wr hB k hlt f t cc he
      have hst : (l.take (k + 1)).any P = P (f, t, cc) := by rw [List.take_succ_eq_append_getElem hlt, List.any_append, hno.out, he]; simp
      have hin : P (f, t, cc) = true → l.any P = true := fun h => by rw [List.any_eq_true]; exact ⟨_, List.getElem_mem hlt, by rw [he]; exact h⟩
      have KC := Lib.hid hC
      have HST := Lib.hid hst
      have HIN := Lib.hid hin
      clear hC hst hin he hl hno
      cases hP : P (f, t, cc) with
      | true =>
        have kk := KC.out
        rw [hP] at kk
        have KK := Lib.hid kk
        have hany := Lib.hid (HIN.out hP)
        clear kk hP
        go_wp2_with fail
        refine KK.out.mono ?_
        rintro e w2 ⟨rfl, hB2⟩
        have B2 := hB.trans (hB2.mono hB.size)
        clear hB2
        go_wp2
        go_ret
        exact ⟨k, rfl, Lib.hid (by rw [hany.out, decide_eq_true (by omega)]), B2⟩
      | false =>
        have kk := KC.out
        rw [hP] at kk
        have KK := Lib.hid kk
        have hno2 := Lib.hid (HST.out.trans hP)
        clear kk hP
        go_wp2_with fail
        refine KK.out.mono ?_
        rintro e w2 ⟨rfl, hB2⟩
        have B2 := hB.trans (hB2.mono hB.size)
        clear hB2
        go_wp2
        go_roundw
        case rel => exact ⟨k + 1, by omega, by go_num, hno2, B2⟩
        case measure => simp [intOf]; omega
    · obtain rfl : k = l.length := by omega
      have hfin := Lib.hid (show l.any P = false by have := hno.out; rwa [List.take_length] at this)
      clear hl hno
      go_wp2
      go_ret
      exact ⟨-1, rfl, Lib.hid (by rw [hfin.out]; rfl), hB⟩
theorem contains_fn (g0 : Nat) (A : Option Addr) (c : Nat) (l : List E) (P : E → Bool) (w : World) (hl : Sl w w.heap.size 3 ce A l) (hlen : l.length ≤ 9223372036854775807) (hcl : Ok g0 l P w) (b : Bool) (hb : l.any P = b) :
    Calls Try.prog 25 #[.slice A l.length c, fnv g0] w fun e w' => e = .returned (.bool b) ∧ Below w.heap.size w w' := by
  subst hb
  have key := index_fn g0 A c l P w hl hlen hcl
  unfold fnv at key ⊢
  have KEY := Lib.hid key
  clear key hl hcl
  go_enter Try.func25, Try.ntmps25
  go_wp2_with fail
  refine KEY.out.mono ?_
  rintro e w1 ⟨r, rfl, hr, hB⟩
  go_wp2
  go_ret
  exact ⟨ret_bool hr.out, hB⟩
end Go.Proofs.Ytjhnlkmdkjlkdaa.CfnKnots
