/- Go's own slices package at []Edge: what Equal, Index and Contains answer. -/
import Derived.Test.YtjdpmkcfllpgaaaStdI
import Derived.Laws.StructEq
namespace Go.Proofs.Ytjdpmkcfllpgaaa.Std
open Go.RowKit Go.Proofs.Ytjdpmkcfllpgaaa
set_option linter.unusedSimpArgs false
set_option linter.unusedVariables false
abbrev E3 := Int × Int × Int

theorem eqInE (w : World) (a b c x y z : Int) : (Op.equalIn 10000 35 (.agg #[.int .i64 a, .int .i64 b, .int .i64 c]) (.agg #[.int .i64 x, .int .i64 y, .int .i64 z])).run Try.prog w = .ok (decide ((a, b, c) = (x, y, z))) w := by
  rw [run_equalIn_agg w 9999 _ _ _ (by kernel_rfl) (by kernel_rfl)]
  by_cases h1 : a = x
  · by_cases h2 : b = y
    · by_cases h3 : c = z
      · simp [Program.fieldsOf, Try.underlying35, Op.eqFields, part, Try.underlying3, go_sem, h1, h2, h3]
      · simp [Program.fieldsOf, Try.underlying35, Op.eqFields, part, Try.underlying3, go_sem, h1, h2, h3]
    · simp [Program.fieldsOf, Try.underlying35, Op.eqFields, part, Try.underlying3, go_sem, h1, h2]
  · simp [Program.fieldsOf, Try.underlying35, Op.eqFields, part, Try.underlying3, go_sem, h1]
theorem eqlE (w : World) (a b c x y z : Int) : (binOp .eql 35 (.agg #[.int .i64 a, .int .i64 b, .int .i64 c]) (.agg #[.int .i64 x, .int .i64 y, .int .i64 z])).run Try.prog w = .ok (.bool (decide ((a, b, c) = (x, y, z)))) w := by
  rw [run_eql_struct, eqInE]; rfl
theorem neqE (w : World) (a b c x y z : Int) : (binOp .neq 35 (.agg #[.int .i64 a, .int .i64 b, .int .i64 c]) (.agg #[.int .i64 x, .int .i64 y, .int .i64 z])).run Try.prog w = .ok (.bool (!decide ((a, b, c) = (x, y, z)))) w := by
  rw [run_neq_struct, eqInE]; rfl

set_option maxHeartbeats 1000000 in
theorem equal_edge (A A' : Option Addr) (c c' : Nat) (l m : List E3) (B B' : Nat) (w : World) (hl : Sl w B 3 ce A l) (hm : Sl w B' 3 ce A' m) (hlen : l.length ≤ 9223372036854775807) :
    Calls Try.prog 67 #[.slice A l.length c, .slice A' m.length c'] w fun e w' => e = .returned (.bool (decide (l = m))) ∧ ∃ n, w' = w.drewN n := by
  by_cases he : l.length = m.length
  · have hm' : (l.length : Int) = m.length := by omega
    have h0 : ((l.length : Int) != (m.length : Int)) = false := by rw [bne_eq_false_iff_eq]; exact hm'
    have HE := Lib.hid he
    clear he hm'
    go_enter Try.func67, Try.ntmps67
    go_wp2
    go_loopw [13] (fun i wr => ∃ k : Nat, k ≤ l.length ∧ i = .int .i64 k ∧ l.take k = m.take k ∧ ∃ n, wr = w.drewN n) (fun i _ => l.length - (intOf i).toNat)
    case atStart => exact ⟨0, Nat.zero_le _, rfl, by simp, 0, rfl⟩
    case round =>
      obtain ⟨k, hk, rfl, htk, n, rfl⟩ := hrel
      have HT := Lib.hid htk
      clear htk
      by_cases hlt : k < l.length
      · have hlt' : k < m.length := by have := HE.out; omega
        obtain ⟨b, off, x1, x2, x3, rfl, hbB, hx, c1, c2, c3⟩ := hl.atE hlt
        obtain ⟨b', off', y1, y2, y3, rfl, hbB', hy, d1, d2, d3⟩ := hm.atE hlt'
        have HX := Lib.hid hx.symm
        have HY := Lib.hid hy.symm
        clear hx hy hl hm
        have hq := fun w => neqE w x1 x2 x3 y1 y2 y3
        by_cases hxy : ((x1, x2, x3) : E3) = (y1, y2, y3)
        · have HXY := Lib.hid hxy
          have hd : decide (((x1, x2, x3) : E3) = (y1, y2, y3)) = true := decide_eq_true hxy
          rw [hd] at hq
          clear hxy hd
          go_wp2
          go_quiet (fail)
          go_wp2
          go_roundw
          case rel => exact ⟨k + 1, by omega, by go_num, take_eq HT.out hlt hlt' (HX.out.symm.trans (HXY.out.trans HY.out)), n + nq, by first | rfl | exact World.drewN_drewN _ _ _⟩
          case measure => simp [intOf]; omega
        · have hd : decide (((x1, x2, x3) : E3) = (y1, y2, y3)) = false := decide_eq_false hxy
          rw [hd] at hq
          have HXY := Lib.hid hxy
          clear hd hxy
          go_wp2
          go_quiet (fail)
          go_wp2
          go_ret
          exact ⟨ret_bool (by symm; rw [decide_eq_false_iff_not]; exact fun e => HXY.out (HX.out.trans ((getElem_of_take e hlt hlt').trans HY.out.symm))), n + nq, by first | rfl | exact World.drewN_drewN _ _ _⟩
      · obtain rfl : k = l.length := by omega
        go_wp2
        go_ret
        refine ⟨ret_bool ?_, n, rfl⟩
        have h1 := HT.out
        rw [List.take_length, List.take_of_length_le (by have := HE.out; omega)] at h1
        symm
        rw [decide_eq_true_eq]
        exact h1
  · have hne : ((l.length : Int) != (m.length : Int)) = true := by rw [bne_iff_ne]; omega
    have HE := Lib.hid he
    clear he hl hm
    go_enter Try.func67, Try.ntmps67
    go_wp2
    go_ret
    exact ⟨ret_bool (by symm; rw [decide_eq_false_iff_not]; exact fun e => HE.out (by rw [e])), 0, rfl⟩
theorem equal_edge' (A A' : Option Addr) (n m c c' : Nat) (l r : List E3) (B B' : Nat) (w : World) (hl : Sl w B 3 ce A l) (hm : Sl w B' 3 ce A' r) (hn : l.length = n) (hm' : r.length = m) (hlen : n ≤ 9223372036854775807) (b : Bool) (hb : decide (l = r) = b) :
    Calls Try.prog 67 #[.slice A n c, .slice A' m c'] w fun e w' => e = .returned (.bool b) ∧ ∃ k, w' = w.drewN k := by
  subst hn hm' hb
  exact equal_edge A A' c c' l r B B' w hl hm hlen

/-- what Index answers, and Contains -/
def IndexSays (l : List E3) (v : E3) (w : World) (e : Ending) (w' : World) : Prop :=
  ∃ i : Int, e = .returned (.int .i64 i) ∧ decide (0 ≤ i) = decide (v ∈ l) ∧ Below w.heap.size w w'
set_option maxHeartbeats 1000000 in
theorem index_edge (A : Option Addr) (c : Nat) (l : List E3) (v1 v2 v3 : Int) (w : World) (hl : Sl w w.heap.size 3 ce A l) (hlen : l.length ≤ 9223372036854775807) :
    Calls Try.prog 55 #[.slice A l.length c, .agg #[.int .i64 v1, .int .i64 v2, .int .i64 v3]] w fun e w' => IndexSays l (v1, v2, v3) w e w' := by
  have hw0 : Below w.heap.size w (w.alloc (.cells #[.int .i64 v1, .int .i64 v2, .int .i64 v3] 35)) := (Below.refl _ _).alloc (Nat.le_refl _) _
  have hs := hl.keep hw0 (Nat.le_refl _)
  clear hl
  go_enter Try.func55, Try.ntmps55
  go_wp2
  go_loopw [8] (fun i wr => ∃ k : Nat, k ≤ l.length ∧ i = .int .i64 k ∧ (v1, v2, v3) ∉ l.take k ∧ ∃ n, wr = (w.alloc (.cells #[.int .i64 v1, .int .i64 v2, .int .i64 v3] 35)).drewN n) (fun i _ => l.length - (intOf i).toNat)
  case atStart => exact ⟨0, Nat.zero_le _, rfl, by simp, 0, rfl⟩
  case round =>
    obtain ⟨k, hk, rfl, htk, n, rfl⟩ := hrel
    have HT := Lib.hid htk
    clear htk
    by_cases hlt : k < l.length
    · obtain ⟨b, off, x1, x2, x3, rfl, hbB, hx, c1, c2, c3⟩ := hs.atE hlt
      have HX := Lib.hid hx.symm
      clear hx hs
      have hq := fun w => eqlE w v1 v2 v3 x1 x2 x3
      by_cases hxy : ((v1, v2, v3) : E3) = (x1, x2, x3)
      · have HXY := Lib.hid hxy
        have hd : decide (((v1, v2, v3) : E3) = (x1, x2, x3)) = true := decide_eq_true hxy
        rw [hd] at hq
        clear hxy hd
        go_wp2
        go_quiet (fail)
        go_wp2
        go_ret
        exact ⟨k, rfl, by rw [decide_eq_true (by omega), eq_comm, decide_eq_true_eq, HXY.out, HX.out]; exact List.getElem_mem hlt, below_drewN (below_drewN hw0 _) _⟩
      · have hd : decide (((v1, v2, v3) : E3) = (x1, x2, x3)) = false := decide_eq_false hxy
        rw [hd] at hq
        have HXY := Lib.hid hxy
        clear hd hxy
        go_wp2
        go_quiet (fail)
        go_wp2
        go_roundw
        case rel => exact ⟨k + 1, by omega, by go_num, by
          rw [List.take_succ_eq_append_getElem hlt, List.mem_append, List.mem_singleton]
          rintro (h | h)
          · exact HT.out h
          · exact HXY.out (h.trans HX.out.symm), n + nq, by first | rfl | exact World.drewN_drewN _ _ _⟩
        case measure => simp [intOf]; omega
    · obtain rfl : k = l.length := by omega
      go_wp2
      go_ret
      exact ⟨-1, rfl, by
        have h1 := HT.out
        rw [List.take_length] at h1
        rw [decide_eq_false h1]; rfl, below_drewN hw0 _⟩

set_option maxHeartbeats 1000000 in
theorem contains_edge (A : Option Addr) (c : Nat) (l : List E3) (v1 v2 v3 : Int) (w : World) (hl : Sl w w.heap.size 3 ce A l) (hlen : l.length ≤ 9223372036854775807) :
    Calls Try.prog 20 #[.slice A l.length c, .agg #[.int .i64 v1, .int .i64 v2, .int .i64 v3]] w fun e w' => e = .returned (.bool (decide ((v1, v2, v3) ∈ l))) ∧ Below w.heap.size w w' := by
  have hw0 : Below w.heap.size w (w.alloc (.cells #[.int .i64 v1, .int .i64 v2, .int .i64 v3] 35)) := (Below.refl _ _).alloc (Nat.le_refl _) _
  have hs := hl.keep hw0 (Nat.le_refl _)
  have KI := Lib.hid (fun w hl => index_edge A c l v1 v2 v3 w hl hlen)
  clear hl
  go_enter Try.func20, Try.ntmps20
  go_wp2_with fail
  refine (KI.out _ (hs.more (by simp))).mono ?_
  rintro e w1 ⟨i, rfl, hi, hb⟩
  have H1 : Below w.heap.size w w1 := hw0.trans (hb.mono (by simp))
  have HI := Lib.hid hi
  clear hi hb hs
  go_wp2
  go_ret
  exact ⟨ret_bool HI.out, H1⟩
end Go.Proofs.Ytjdpmkcfllpgaaa.Std
