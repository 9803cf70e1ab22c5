/- Go's own slices package at []int: what Index and Contains answer. -/
import Derived.Test.YtjebckehmmbkbaaVQueue
namespace Go.Proofs.Ytjebckehmmbkbaa.Std
open Go.RowKit Go.Proofs.Ytjebckehmmbkbaa
set_option linter.unusedSimpArgs false
set_option linter.unusedVariables false

/-- where a number is first -/
structure At (l : List Int) (v i : Int) : Prop where
  not : v ∉ l → i = -1
  is : v ∈ l → ∃ k : Nat, i = k ∧ l[k]? = some v ∧ v ∉ l.take k
theorem At.mem {l : List Int} {v i : Int} (h : At l v i) : decide (0 ≤ i) = decide (v ∈ l) := by
  by_cases hv : v ∈ l
  · obtain ⟨k, rfl, _⟩ := h.is hv
    rw [decide_eq_true hv, decide_eq_true (by omega)]
  · rw [h.not hv, decide_eq_false hv]; rfl
def IndexI (l : List Int) (v : Int) (w : World) (e : Ending) (w' : World) : Prop := ∃ i : Int, e = .returned (.int .i64 i) ∧ At l v i ∧ w' = w
set_option maxHeartbeats 1000000 in
theorem index_int (A : Option Addr) (c : Nat) (l : List Int) (v : Int) (B : Nat) (w : World) (hl : Sl w B 1 ci A l) (hlen : l.length ≤ 9223372036854775807) :
    Calls Try.prog 42 #[.slice A l.length c, .int .i64 v] w fun e w' => IndexI l v w e w' := by
  go_enter Try.func42, Try.ntmps42
  go_wp2
  go_loop [8] (fun i => ∃ k : Nat, k ≤ l.length ∧ i = .int .i64 k ∧ Hid (v ∉ l.take k)) (fun i => l.length - (intOf i).toNat)
  case atStart => exact ⟨0, Nat.zero_le _, rfl, Lib.hid (by simp)⟩
  case round =>
    obtain ⟨k, hk, rfl, HT⟩ := hrel
    by_cases hlt : k < l.length
    · obtain ⟨b, off, rfl, hbB, hc⟩ := hl.atI hlt
      have hx : l[k]? = some l[k] := List.getElem?_eq_getElem hlt
      have htk : l.take (k + 1) = l.take k ++ [l[k]] := List.take_succ_eq_append_getElem hlt
      have hin : l[k] ∈ l := List.getElem_mem hlt
      generalize l[k] = x at *
      have HX := Lib.hid hx
      have HTK := Lib.hid htk
      have HIN := Lib.hid hin
      clear hx htk hin hl
      by_cases hxy : v = x
      · subst hxy
        go_wp2
        go_ret
        exact ⟨k, rfl, ⟨fun h => absurd HIN.out h, fun _ => ⟨k, rfl, HX.out, HT.out⟩⟩, rfl⟩
      · have hne : (v == x) = false := by rw [beq_eq_false_iff_ne]; exact hxy
        have HNE := Lib.hid hxy
        clear hxy
        go_wp2
        go_round
        case rel => exact ⟨k + 1, by omega, by go_num, Lib.hid (by
          rw [HTK.out, List.mem_append, List.mem_singleton]
          rintro (h | h)
          · exact HT.out h
          · exact HNE.out h)⟩
        case measure => simp [intOf]; omega
    · obtain rfl : k = l.length := by omega
      have h1 : v ∉ l := by have := HT.out; rwa [List.take_length] at this
      have H1 := Lib.hid h1
      clear h1
      go_wp2
      go_ret
      exact ⟨-1, rfl, ⟨fun _ => rfl, fun h => absurd h H1.out⟩, rfl⟩
theorem contains_int (A : Option Addr) (c n : Nat) (l : List Int) (v : Int) (B : Nat) (w : World) (hl : Sl w B 1 ci A l) (hn : l.length = n) (hlen : n ≤ 9223372036854775807) (b : Bool) (hb : decide (v ∈ l) = b) :
    Calls Try.prog 36 #[.slice A n c, .int .i64 v] w fun e w' => e = .returned (.bool b) ∧ w' = w := by
  subst hn hb
  have KI := Lib.hid (index_int A c l v B w hl hlen)
  clear hl
  go_enter Try.func36, Try.ntmps36
  go_wp2_with fail
  refine KI.out.mono ?_
  rintro e w1 ⟨i, rfl, hi, rfl⟩
  have HI := Lib.hid hi.mem
  clear hi
  go_wp2
  go_ret
  exact ⟨ret_bool HI.out, rfl⟩
end Go.Proofs.Ytjebckehmmbkbaa.Std
