/- strings.Builder (WriteByte, String) and strings.IndexByte at this program: the library's own text, walked. -/
/- Plain facts on ground as text: what is printed is read again, what was read is printed again. -/
/- The walks of package maps (Print, Read), and fellref.SameGrid. -/
import Derived.Test.YtbgkkmcobijkgaaVKit
import Derived.Lib.Strings
import Derived.Lib.Slices
import Derived.Lib.Walk
import Derived.Lib.Builder
import Derived.Lib.AppendStr
import Derived.Lib.UnsafeStr
import Derived.Lib.Bytealg
import Derived.Laws.Externs
import Derived.Laws.IdiomCopy
import Derived.BigRegion
import Derived.RowKit
import Derived.Lib.IndexLaws
import Derived.Test.YtbgkkmcobijkgaaVGridBackLaw
import Derived.Test.YtbgkkmcobijkgaaVStdI
import Derived.Test.YtbgkkmcobijkgaaVHierWalks
import Derived.Test.YtbgkkmcobijkgaaVNetTurn
namespace Go.Proofs.Ytbgkkmcobijkgaa.Strs
open Go.RowKit Go.Proofs.Ytbgkkmcobijkgaa
set_option linter.unusedSimpArgs false
set_option linter.unusedVariables false
abbrev TB : TypeId := 110
abbrev TY : TypeId := 5
theorem sizeB : (Try.prog.info? TB).map (·.size) = some 2 := by kernel_rfl
theorem liesB : liesAt Try.prog Try.prog.depth TB (2 / Try.prog.cellsOf TB) 0 TB 1 = true := by kernel_rfl
theorem infoY : (Try.prog.info? TY).map (fun i => (i.zero, i.size, i.bytes)) = some (some (.int .u8 0), 1, 1) := by kernel_rfl
theorem cellsY : Try.prog.cellsOf TY = 1 := by kernel_rfl

set_option maxRecDepth 100000 in
set_option maxHeartbeats 1000000 in
theorem check_used (b : Nat) (w : World) (h0 : w.cell? ⟨b, 0, none⟩ = some (.pointer (some ⟨b, 0, none⟩))) :
    Calls Try.prog 91 #[.pointer (some ⟨b, 0, none⟩)] w fun e w' => e = .returned (.tuple #[]) ∧ w' = w := by
  obtain ⟨j, hj, _⟩ := Option.map_eq_some_iff.1 sizeB
  go_enter Try.func91, Try.ntmps91
  go_wp2
  rw [Lib.run_neq_ptr_same w _ Try.underlying107 hj]
  go_wp2
  go_end0
  exact ⟨rfl, rfl⟩
set_option maxRecDepth 100000 in
set_option maxHeartbeats 1000000 in
theorem check_fresh (b : Nat) (w : World) (h0 : w.cell? ⟨b, 0, none⟩ = some (.pointer none)) (hsh : w.shape? b = some (TB, 2)) (hfz : w.frozen? ⟨b, 0, none⟩ = false) :
    Calls Try.prog 91 #[.pointer (some ⟨b, 0, none⟩)] w fun e w' => e = .returned (.tuple #[]) ∧ w' = w.setCell ⟨b, 0, none⟩ (.pointer (some ⟨b, 0, none⟩)) := by
  obtain ⟨j, hj, hjs⟩ := Option.map_eq_some_iff.1 sizeB
  go_enter Try.func91, Try.ntmps91
  go_wp2
  rw [Lib.run_to_unsafe w ⟨b, 0, none⟩ Try.underlying107 Try.underlying158 hj (by rw [hjs]; decide) hsh (Nat.zero_lt_succ 1)]
  simp only [Result.andThen]
  rw [Oper.upon_value]
  go_wp2
  rw [run_callFunc_extern Try.func96 (by kernel_rfl) (by kernel_rfl) (by kernel_rfl) (e := Extern.AbiNoEscape.same) (by kernel_rfl)]
  rw [Lib.run_noEscape]
  simp only [Result.andThen]
  rw [Oper.upon_value]
  go_wp2
  rw [Lib.run_from_unsafe w ⟨b, 0, none⟩ Try.underlying158 Try.underlying107 hj hsh liesB]
  simp only [Result.andThen]
  rw [Oper.upon_value]
  go_wp2
  go_end0
  exact ⟨rfl, rfl⟩
theorem check_any (B b : Nat) (bs : List Value) (w : World) (h : Lib.IsBuilder TB TY B b bs w) :
    Calls Try.prog 91 #[.pointer (some ⟨b, 0, none⟩)] w fun e w' => e = .returned (.tuple #[]) ∧ Lib.BuilderAt TB TY B b (.pointer (some ⟨b, 0, none⟩)) bs w' ∧ Below B w w' := by
  rcases h with h | h
  · refine (check_fresh b w h.cell0 h.shape h.frozen0).mono ?_
    rintro e w' ⟨rfl, rfl⟩
    exact ⟨rfl, h.used _, (Below.refl B w).setCell (p := ⟨b, 0, none⟩) h.1 _⟩
  · refine (check_used b w h.cell0).mono ?_
    rintro e w' ⟨rfl, rfl⟩
    exact ⟨rfl, h, Below.refl B _⟩
set_option maxRecDepth 100000 in
set_option maxHeartbeats 2000000 in
theorem write_byte (B b : Nat) (bs : List Value) (c : Int) (w : World) (h : Lib.IsBuilder TB TY B b bs w) (hlen : bs.length + 1 ≤ 1000000) (hBw : B ≤ w.heap.size) :
    Calls Try.prog 68 #[.pointer (some ⟨b, 0, none⟩), .int .u8 c] w fun e w' => e = .returned .nilIface ∧ Lib.IsBuilder TB TY B b (bs ++ [.int .u8 c]) w' ∧ Below B w w' := by
  obtain ⟨i0, hi, hz0, hz1, hz2⟩ := info_parts infoY
  go_enter Try.func68, Try.ntmps68
  go_wp2_with (go_at_call 91; refine (check_any B b bs _ h).mono ?_)
  rintro e w1 ⟨rfl, h1, hb1⟩
  have hlt := h1.lt
  obtain ⟨hB, v, hbk, hown, hne⟩ := h1
  have c0 : w1.cell? ⟨b, 0, none⟩ = some (.pointer (some ⟨b, 0, none⟩)) := by rw [Lib.cell_of_heap hbk]; rfl
  have c1 : w1.cell? ⟨b, 1, none⟩ = some v := by rw [Lib.cell_of_heap hbk]; rfl
  have hz1' := hb1.size
  go_wp2_with (at_builtin; refine wpList_append_own _ rfl _ _ 108 rfl B 5 i0 (.int .u8 0) 1 1 Try.underlying108 hi hz0 hz1 hz2 rfl (by decide) _ _ _ rfl (hown.alloc _) ⟨w1.heap.size, 0, none⟩ 1 1 [.int .u8 c] rfl rfl ?c1 ?c2 ?c3 ?c4 ?c5 ?_)
  case c1 =>
    intro j u hj
    match j, hj with
    | 0, hj => simp at hj; subst hj; simp [Addr.add]
  case c2 => intro u hu; simp at hu; subst hu; rfl
  case c3 => unfold maxLen; omega
  case c4 => omega
  case c5 => simp; omega
  intro v' w2 hown' hgrow _
  have hb2 : w2.heap[b]? = some (.cells #[.pointer (some ⟨b, 0, none⟩), v] TB (0, 0)) := by
    rw [hgrow.block b (by simp; omega) (fun e => hne e.symm), Lib.alloc_old w1 _ b hlt]
    exact hbk
  have d0 : w2.cell? ⟨b, 0, none⟩ = some (.pointer (some ⟨b, 0, none⟩)) := by rw [Lib.cell_of_heap hb2]; rfl
  have d1 : w2.cell? ⟨b, 1, none⟩ = some v := by rw [Lib.cell_of_heap hb2]; rfl
  have f1 : w2.frozen? ⟨b, 1, none⟩ = false := Lib.frozen_of_heap hb2 1
  obtain ⟨g, cap, rfl⟩ : ∃ g cap, v' = .slice (some ⟨g, 0, none⟩) (bs.length + 1) cap := by
    rcases hown'.2 with ⟨_, h0⟩ | ⟨g, cap, cur, hv, _⟩
    · omega
    · exact ⟨g, cap, hv⟩
  go_wp2
  go_ret
  refine ⟨rfl, .inr ?_, ?_⟩
  · exact Lib.BuilderAt.put (T := TB) (e := TY) hB hb2 (bs' := bs ++ [.int .u8 c]) (by simpa using hown') (by decide)
  · exact ((hb1.alloc (by omega) _).grown hgrow (by simp; omega) (fun k hk => (hown.lt k hk).1)).setCell (p := ⟨b, 1, none⟩) hB _
set_option maxRecDepth 100000 in
set_option maxHeartbeats 2000000 in
/-- String of a builder in which some byte stands -/
theorem told (B b : Nat) (l : List UInt8) (w : World) (h : Lib.IsBuilder TB TY B b (Lib.byteCells l) w) (h0 : l ≠ []) :
    Calls Try.prog 69 #[.pointer (some ⟨b, 0, none⟩)] w fun e w' => e = .returned (.string ⟨l.toArray⟩) ∧ Below B w w' := by
  obtain ⟨p, hB, v, hbk, hown, hne⟩ : ∃ p, Lib.BuilderAt TB TY B b p (Lib.byteCells l) w := by
    rcases h with h | h
    · exact ⟨_, h⟩
    · exact ⟨_, h⟩
  have hl0 : l.length ≠ 0 := by simpa using h0
  rw [Lib.byteCells_length] at hown
  rcases hown.2 with ⟨_, hz⟩ | ⟨g, cap, cur, rfl, hbg, hg, hnc, hcm, hcs, htake⟩
  · exact absurd hz hl0
  have c1 : w.drew.cell? ⟨b, 1, none⟩ = some (.slice (some ⟨g, 0, none⟩) l.length cap) := by
    have : w.drew.heap[b]? = some (.cells #[p, .slice (some ⟨g, 0, none⟩) l.length cap] TB (0, 0)) := hbk
    rw [Lib.cell_of_heap this]; rfl
  have hSD : (Builtin.unsafeSliceData_ #[108] 149 #[.slice (some ⟨g, 0, none⟩) l.length cap]).run Try.prog w.drew = .ok (.pointer (some ⟨g, 0, none⟩)) w.drew :=
    Lib.run_unsafeSliceData_row _ _ _ _ _ _ (by omega)
  have hUS : (Builtin.unsafeString_ #[149, 3] 9 #[.pointer (some ⟨g, 0, none⟩), .int .i64 l.length]).run Try.prog w.drew = .ok (.string ⟨l.toArray⟩) (w.drew.freeze ⟨g, 0, none⟩ l.length) := by
    refine Lib.run_unsafeString_row w.drew 149 3 9 TY Try.underlying149 cellsY g cur.size (by have hg' : w.drew.heap[g]? = some (.cells cur TY (0, 0)) := hg; simp [World.shape?, hg']) l h0 (by omega) (by unfold maxLen at hcm; omega) ?_
    intro j x hx
    have := hown.cells (g := g) rfl j (.int .u8 x.toNat) (by simp [Lib.byteCells, hx])
    exact this
  go_enter Try.func69, Try.ntmps69
  go_wp2
  go_region
  all_goals (go_wp2; go_ret; exact ⟨rfl, Lib.below_freeze (Below.drew (Below.refl B w)) (p := ⟨g, 0, none⟩) hbg _⟩)
set_option maxRecDepth 100000 in
set_option maxHeartbeats 1000000 in
theorem stringslite_index (s : ByteArray) (c : Int) (w : World) :
    Calls Try.prog 92 #[.string s, .int .u8 c] w fun e w' => e = .returned (.int .i64 (Lib.indexByte s.data.toList c.toNat.toUInt8)) ∧ w' = w := by
  go_enter Try.func92, Try.ntmps92
  go_wp2
  rw [run_callFunc_extern Try.func97 (by kernel_rfl) (by kernel_rfl) (by kernel_rfl) (e := Extern.BytealgIndexByte.indexByte) (by kernel_rfl), Lib.run_indexByteString]
  simp only [Result.andThen]
  rw [Oper.upon_value]
  go_wp2
  go_ret
  exact ⟨rfl, rfl⟩
set_option maxRecDepth 100000 in
set_option maxHeartbeats 1000000 in
theorem index_byte (s : ByteArray) (c : Int) (w : World) :
    Calls Try.prog 71 #[.string s, .int .u8 c] w fun e w' => e = .returned (.int .i64 (Lib.indexByte s.data.toList c.toNat.toUInt8)) ∧ w' = w := by
  go_enter Try.func71, Try.ntmps71
  go_wp2_with (go_at_call 92; refine (stringslite_index _ _ _).mono ?_; rintro e w' ⟨rfl, rfl⟩)
  go_ret
  exact ⟨rfl, rfl⟩
end Go.Proofs.Ytbgkkmcobijkgaa.Strs

namespace Go.Proofs.Ytbgkkmcobijkgaa.MapsLaw
open Go.Proofs.Ytbgkkmcobijkgaa GridLaw
set_option linter.unusedSimpArgs false
set_option linter.unusedVariables false
abbrev signs : List UInt8 := [35, 49, 50, 51, 52, 53, 54, 55, 56, 57]
def sg (c : Int) : UInt8 := signs.getD c.toNat 35
def pr (W : Nat) : Nat → List Int → List UInt8
  | _, [] => []
  | i, c :: r => sg c :: (if (i + 1) % W = 0 then 10 :: pr W (i + 1) r else pr W (i + 1) r)
def sx (b : UInt8) : Int := Lib.indexByte signs b
def rd (w : Nat) : Nat → List UInt8 → Option (List Int)
  | _, [] => some []
  | i, b :: r => if i % (w + 1) = w then (if b = 10 then rd w (i + 1) r else none) else if sx b < 0 then none else (rd w (i + 1) r).map (sx b :: ·)
theorem ten {c : Int} (h0 : 0 ≤ c) (h9 : c ≤ 9) : c = 0 ∨ c = 1 ∨ c = 2 ∨ c = 3 ∨ c = 4 ∨ c = 5 ∨ c = 6 ∨ c = 7 ∨ c = 8 ∨ c = 9 := by omega
theorem sg_bd {c : Int} (h0 : 0 ≤ c) (h9 : c ≤ 9) : sx (sg c) = c ∧ sg c ≠ 10 := by
  rcases ten h0 h9 with rfl | rfl | rfl | rfl | rfl | rfl | rfl | rfl | rfl | rfl <;> decide
theorem sx_bd {b : UInt8} (h : ¬ sx b < 0) : 0 ≤ sx b ∧ sx b ≤ 9 ∧ sg (sx b) = b := by
  obtain ⟨o, ho⟩ : ∃ o : Nat, sx b = o := ⟨(sx b).toNat, by omega⟩
  have h1 : signs[o]? = some b := (Lib.indexByte_some ho).1
  have h2 : o < 10 := (List.getElem?_eq_some_iff.1 h1).1
  refine ⟨by omega, by omega, ?_⟩
  rw [ho, sg, Int.toNat_natCast, List.getD_eq_getElem?_getD, h1]
  rfl
theorem next (m i : Nat) (hm : 0 < m) : (i % m + 1 < m ∧ (i + 1) % m = i % m + 1 ∧ (i + 1) / m = i / m) ∨ (i % m + 1 = m ∧ (i + 1) % m = 0 ∧ (i + 1) / m = i / m + 1) := by
  have e := Nat.div_add_mod i m
  have hl := Nat.mod_lt i hm
  have h1 : i + 1 = (i % m + 1) + m * (i / m) := by omega
  rcases Nat.lt_or_ge (i % m + 1) m with h | h
  · refine .inl ⟨h, ?_, ?_⟩
    · rw [h1, Nat.add_mul_mod_self_left, Nat.mod_eq_of_lt h]
    · rw [h1, Nat.add_mul_div_left _ _ hm, Nat.div_eq_of_lt h]
      omega
  · have h2 : i % m + 1 = m := by omega
    refine .inr ⟨h2, ?_, ?_⟩
    · rw [h1, Nat.add_mul_mod_self_left, h2, Nat.mod_self]
    · rw [h1, Nat.add_mul_div_left _ _ hm, h2, Nat.div_self hm]
      omega
theorem at_ (W i : Nat) (hW : 0 < W) : (i + i / W) % (W + 1) = i % W := by
  have e := Nat.div_add_mod i W
  have hl := Nat.mod_lt i hW
  have h1 : i + i / W = i % W + (W + 1) * (i / W) := by rw [Nat.succ_mul]; omega
  rw [h1, Nat.add_mul_mod_self_left, Nat.mod_eq_of_lt (by omega)]
theorem rd_pr {W : Nat} (hW : 0 < W) : ∀ (r : List Int) (i : Nat), (∀ c ∈ r, 0 ≤ c ∧ c ≤ 9) → rd W (i + i / W) (pr W i r) = some r
  | [], i, _ => rfl
  | c :: r, i, h => by
    have hj := at_ W i hW
    have hl := Nat.mod_lt i hW
    obtain ⟨h0, h9⟩ := h c (List.mem_cons_self ..)
    obtain ⟨hs, hne⟩ := sg_bd h0 h9
    have ih := rd_pr hW r (i + 1) fun z hz => h z (List.mem_cons_of_mem _ hz)
    rcases next W i hW with ⟨h1, h2, h3⟩ | ⟨h1, h2, h3⟩
    · rw [pr, if_neg (by omega), rd, if_neg (by omega), hs, if_neg (by omega), show i + i / W + 1 = i + 1 + (i + 1) / W by omega, ih]
      rfl
    · have hk : (i + i / W + 1) % (W + 1) = W := by
        rcases next (W + 1) (i + i / W) (by omega) with ⟨_, h5, _⟩ | ⟨h5, _, _⟩
        · omega
        · omega
      rw [pr, if_pos h2, rd, if_neg (by omega), hs, if_neg (by omega), rd, if_pos hk, if_pos rfl, show i + i / W + 1 + 1 = i + 1 + (i + 1) / W by omega, ih]
      rfl
theorem pr_len {W : Nat} (hW : 0 < W) : ∀ (r : List Int) (i : Nat), (pr W i r).length + i / W = r.length + (i + r.length) / W
  | [], i => by simp [pr]
  | c :: r, i => by
    have ih := pr_len hW r (i + 1)
    have e : i + (c :: r).length = i + 1 + r.length := by rw [List.length_cons]; omega
    rw [e, List.length_cons]
    rcases next W i hW with ⟨h1, h2, h3⟩ | ⟨h1, h2, h3⟩
    · rw [pr, if_neg (by omega), List.length_cons]
      omega
    · rw [pr, if_pos h2, List.length_cons, List.length_cons]
      omega
theorem pr_idx {W : Nat} (hW : 0 < W) : ∀ (r : List Int) (i : Nat), (∀ c ∈ r, 0 ≤ c ∧ c ≤ 9) → W ≤ i % W + r.length → Lib.indexByte (pr W i r) 10 = ((W - i % W : Nat) : Int)
  | [], i, _, h => by
    have := Nat.mod_lt i hW
    simp at h
    omega
  | c :: r, i, h, hr => by
    have hl := Nat.mod_lt i hW
    obtain ⟨h0, h9⟩ := h c (List.mem_cons_self ..)
    obtain ⟨_, hne⟩ := sg_bd h0 h9
    have hb : (sg c == 10) = false := by simp [hne]
    rw [List.length_cons] at hr
    rcases next W i hW with ⟨h1, h2, h3⟩ | ⟨h1, h2, h3⟩
    · have ih := pr_idx hW r (i + 1) (fun z hz => h z (List.mem_cons_of_mem _ hz)) (by omega)
      rw [pr, if_neg (by omega), Lib.indexByte, hb, ih]
      have hn : (((W - (i + 1) % W : Nat) : Int) == -1) = false := by rw [beq_eq_false_iff_ne]; omega
      rw [hn]
      simp only [Bool.false_eq_true, if_false]
      omega
    · rw [pr, if_pos h2, Lib.indexByte, hb, Lib.indexByte]
      have hn : ((10 : UInt8) == 10) = true := rfl
      rw [hn]
      simp
      omega
theorem pr_snoc {W : Nat} : ∀ (r : List Int) (i : Nat) (c : Int), pr W i (r ++ [c]) = pr W i r ++ (sg c :: if (i + r.length + 1) % W = 0 then [10] else [])
  | [], i, c => by simp [pr]
  | d :: r, i, c => by
    have ih := pr_snoc (W := W) r (i + 1) c
    rw [List.cons_append, pr, ih, pr, List.length_cons, show i + 1 + r.length + 1 = i + (r.length + 1) + 1 by omega]
    split <;> simp
theorem pr_small {W : Nat} (hW : 0 < W) (l : List Int) (k : Nat) : (pr W 0 (l.take k)).length ≤ 2 * k := by
  have h1 := pr_len hW (l.take k) 0
  rw [Nat.zero_add, Nat.zero_div] at h1
  have h2 := Nat.div_le_self (l.take k).length W
  have h3 : (l.take k).length ≤ k := by rw [List.length_take]; omega
  omega
theorem pr_step {W : Nat} (l : List Int) (k : Nat) (h : k < l.length) : pr W 0 (l.take (k + 1)) = pr W 0 (l.take k) ++ (sg l[k] :: if (k + 1) % W = 0 then [10] else []) := by
  rw [List.take_succ_eq_append_getElem h, pr_snoc, List.length_take, Nat.min_eq_left (by omega), Nat.zero_add]
/-- how many cells stand ahead of a place in the text -/
def kk (w j : Nat) : Nat := w * (j / (w + 1)) + j % (w + 1)
theorem kk_next (w j : Nat) : (j % (w + 1) < w ∧ kk w (j + 1) = kk w j + 1) ∨ (j % (w + 1) = w ∧ kk w (j + 1) = kk w j) := by
  unfold kk
  rcases next (w + 1) j (by omega) with ⟨h1, h2, h3⟩ | ⟨h1, h2, h3⟩
  · refine .inl ⟨by omega, ?_⟩
    rw [h2, h3]
    omega
  · refine .inr ⟨by omega, ?_⟩
    rw [h2, h3, Nat.mul_add]
    omega
theorem rd_len {w : Nat} : ∀ (s : List UInt8) (i : Nat) (l : List Int), rd w i s = some l → l.length + kk w i = kk w (i + s.length)
  | [], i, l, h => by
    injection h with h
    subst h
    simp
  | b :: s, i, l, h => by
    rw [rd] at h
    rw [List.length_cons, show i + (s.length + 1) = i + 1 + s.length by omega]
    rcases kk_next w i with ⟨h1, h2⟩ | ⟨h1, h2⟩
    · rw [if_neg (by omega)] at h
      split at h
      · cases h
      · obtain ⟨l', h3, rfl⟩ := Option.map_eq_some_iff.1 h
        have := rd_len s (i + 1) l' h3
        rw [List.length_cons]
        omega
    · rw [if_pos h1] at h
      split at h
      · have := rd_len s (i + 1) l h
        omega
      · cases h
theorem rd_bd {w : Nat} : ∀ (s : List UInt8) (i : Nat) (l : List Int), rd w i s = some l → ∀ c ∈ l, 0 ≤ c ∧ c ≤ 9
  | [], i, l, h => by
    injection h with h
    subst h
    simp
  | b :: s, i, l, h => by
    rw [rd] at h
    split at h
    · split at h
      · exact rd_bd s (i + 1) l h
      · cases h
    · split at h
      · cases h
      · rename_i hs
        obtain ⟨l', h3, rfl⟩ := Option.map_eq_some_iff.1 h
        have h4 := rd_bd s (i + 1) l' h3
        intro c hc
        rcases List.mem_cons.1 hc with rfl | hc
        · exact ⟨(sx_bd hs).1, (sx_bd hs).2.1⟩
        · exact h4 c hc
theorem pr_rd {w : Nat} (hw : 0 < w) : ∀ (n : Nat) (s : List UInt8) (i : Nat) (l : List Int), s.length ≤ n → rd w i s = some l → (i + s.length) % (w + 1) = 0 → (i % (w + 1) < w) → pr w (kk w i) l = s
  | 0, s, i, l, hn, h, _, _ => by
    obtain rfl : s = [] := List.eq_nil_of_length_eq_zero (by omega)
    injection h with h
    subst h
    rfl
  | n + 1, [], i, l, hn, h, _, _ => by
    injection h with h
    subst h
    rfl
  | n + 1, b :: s, i, l, hn, h, he, hi => by
    rw [rd, if_neg (by omega)] at h
    split at h
    · cases h
    rename_i hs
    obtain ⟨l', h3, rfl⟩ := Option.map_eq_some_iff.1 h
    obtain ⟨_, _, hsg⟩ := sx_bd hs
    rw [List.length_cons] at hn he
    have hkm : kk w i % w = i % (w + 1) := by
      unfold kk
      rw [Nat.add_comm, Nat.add_mul_mod_self_left, Nat.mod_eq_of_lt hi]
    rcases next (w + 1) i (by omega) with ⟨h1, h2, _⟩ | ⟨h1, _, _⟩
    · rcases kk_next w i with ⟨_, h4⟩ | ⟨h4, _⟩
      · rcases Nat.lt_or_ge (i % (w + 1) + 1) w with h5 | h5
        · have h6 : ¬ (kk w i + 1) % w = 0 := by
            rcases next w (kk w i) hw with ⟨_, h7, _⟩ | ⟨h7, _, _⟩ <;> omega
          rw [pr, if_neg h6, hsg, ← h4, pr_rd hw n s (i + 1) l' (by omega) h3 (by rw [← he]; congr 1; omega) (by omega)]
        · have h6 : (kk w i + 1) % w = 0 := by
            rcases next w (kk w i) hw with ⟨h7, _, _⟩ | ⟨_, h7, _⟩
            · omega
            · exact h7
          have hat : (i + 1) % (w + 1) = w := by omega
          match s, hn, he, h3 with
          | [], hn, he, h3 =>
            rw [List.length_nil, Nat.zero_add] at he
            omega
          | d :: s, hn, he, h3 =>
            rw [rd, if_pos hat] at h3
            split at h3
            · rename_i hd
              subst hd
              rcases next (w + 1) (i + 1) (by omega) with ⟨h8, _, _⟩ | ⟨_, h8, _⟩
              · omega
              · rcases kk_next w (i + 1) with ⟨h9, _⟩ | ⟨_, h9⟩
                · omega
                · rw [List.length_cons] at hn he
                  rw [pr, if_pos h6, hsg, ← h4, ← h9, pr_rd hw n s (i + 1 + 1) l' (by omega) h3 (by rw [← he]; congr 1; omega) (by omega)]
            · cases h3
      · omega
    · omega
/-- what a text reads as -/
structure Rd (s : List UInt8) (W H : Nat) (l : List Int) : Prop where
  idx : Lib.indexByte s 10 = W
  w1 : 1 ≤ W
  w8 : W ≤ 8
  len : s.length = (W + 1) * H
  h8 : H ≤ 8
  told : rd W 0 s = some l
theorem Rd.good {s : List UInt8} {W H : Nat} {l : List Int} (h : Rd s W H l) : GGood (W : Int) (H : Int) l := by
  have h1 := (Lib.indexByte_some h.idx).1
  have h2 := (List.getElem?_eq_some_iff.1 h1).1
  have hH : 1 ≤ H := by
    rcases Nat.eq_zero_or_pos H with h0 | h0
    · have := h.len
      rw [h0, Nat.mul_zero] at this
      omega
    · exact h0
  have hl := rd_len s 0 l h.told
  rw [Nat.zero_add, h.len] at hl
  have e0 : kk W 0 = 0 := by simp [kk]
  have e1 : kk W ((W + 1) * H) = W * H := by
    unfold kk
    rw [Nat.mul_div_cancel_left _ (by omega), Nat.mul_mod_right, Nat.add_zero]
  rw [e0, e1, Nat.add_zero] at hl
  have := h.w1
  have := h.w8
  have := h.h8
  exact ⟨by omega, by omega, by omega, by omega, by rw [hl]; rfl, rd_bd s 0 l h.told⟩
theorem Rd.back {s : List UInt8} {W H : Nat} {l : List Int} (h : Rd s W H l) : pr W 0 l = s := by
  have hw := h.w1
  have := pr_rd hw s.length s 0 l (Nat.le_refl _) h.told (by rw [Nat.zero_add, h.len, Nat.mul_mod_right]) (by simp; omega)
  have e0 : kk W 0 = 0 := by simp [kk]
  rwa [e0] at this
theorem Rd.unique {s : List UInt8} {W H W' H' : Nat} {l l' : List Int} (h : Rd s W H l) (k : Rd s W' H' l') : W' = W ∧ H' = H ∧ l' = l := by
  have e1 : W' = W := by
    have := h.idx.symm.trans k.idx
    omega
  subst e1
  have e2 : H' = H := by
    have := h.len.symm.trans k.len
    exact (Nat.eq_of_mul_eq_mul_left (by omega) this).symm
  subst e2
  have := h.told.symm.trans k.told
  injection this with this
  exact ⟨rfl, rfl, this.symm⟩
theorem rd_of_good {W H : Int} {l : List Int} (h : GGood W H l) : Rd (pr W.toNat 0 l) W.toNat H.toNat l := by
  have hw := h.w1
  have hw8 := h.w8
  have hh := h.h1
  have hh8 := h.h8
  obtain ⟨a, rfl⟩ : ∃ a : Nat, W = a := ⟨W.toNat, by omega⟩
  obtain ⟨b, rfl⟩ : ∃ b : Nat, H = b := ⟨H.toNat, by omega⟩
  simp only [Int.toNat_natCast]
  have hl : l.length = a * b := by exact_mod_cast h.len
  have ha : 0 < a := by omega
  have h1 := pr_len ha l 0
  rw [Nat.zero_add, hl, Nat.mul_div_cancel_left _ ha] at h1
  have hab : a * 1 ≤ a * b := Nat.mul_le_mul_left a (by omega)
  refine ⟨?_, by omega, by omega, ?_, by omega, ?_⟩
  · rw [pr_idx ha l 0 h.cell (by rw [hl]; simp; omega)]
    simp
  · rw [Nat.succ_mul]
    simp at h1
    omega
  · have := rd_pr ha l 0 h.cell
    simpa using this
end Go.Proofs.Ytbgkkmcobijkgaa.MapsLaw

namespace Go.Proofs.Ytbgkkmcobijkgaa.Maps
open Go.RowKit Go.Proofs.Ytbgkkmcobijkgaa GridLaw MapsLaw Go.Proofs.Ytbgkkmcobijkgaa.Grid Go.Proofs.Ytbgkkmcobijkgaa.Strs Go.Proofs.Ytbgkkmcobijkgaa.Std Go.Proofs.Ytbgkkmcobijkgaa.Net
set_option linter.unusedSimpArgs false
set_option linter.unusedVariables false
abbrev sgb : ByteArray := ⟨#[35, 49, 50, 51, 52, 53, 54, 55, 56, 57]⟩
theorem sgb_at (w : World) {v : Int} (h0 : 0 ≤ v) (h9 : v ≤ 9) : (Instr.index 9 (.string sgb) (.int .i64 v)).run Try.prog w = .ok (.int .u8 ((sg v).toNat : Int)) w := by
  rw [run_index_string w 9 sgb .i64 v Try.underlying9]
  rcases ten h0 h9 with rfl | rfl | rfl | rfl | rfl | rfl | rfl | rfl | rfl | rfl <;> rfl
set_option maxRecDepth 100000 in
set_option maxHeartbeats 1000000 in
theorem print_no (W H : Int) (A : Option Addr) (n c : Nat) (l : List Int) (w : World) (hn : l.length = n) (hl : Sl w w.heap.size 1 ci A l) (hlen : n ≤ 9223372036854775807) (hg : gchk W H l ≠ 0) :
    Calls Try.prog 40 #[.agg #[.int .i64 W, .int .i64 H, .slice A n c]] w fun e w' => e = .returned (.tuple #[.string ⟨#[]⟩, .int .i64 (gchk W H l)]) ∧ Below w.heap.size w w' := by
  subst hn
  have hb0 : Below w.heap.size w (w.alloc (.cells #[.int .i64 W, .int .i64 H, .slice A l.length c] 24)) := (Below.refl _ _).alloc (Nat.le_refl _) _
  have key := check_any W H A c l _ ((hl.keep hb0 (Nat.le_refl _)).more hb0.size) hlen
  generalize gchk W H l = g at key hg ⊢
  have g0 : (g != 0) = true := by simp [hg]
  have KEY := Lib.hid key
  clear key hl hg
  go_enter Try.func40, Try.ntmps40
  go_wp2_with fail
  refine KEY.out.mono ?_
  rintro e w1 ⟨rfl, hb1⟩
  have hB1 := hb0.trans (hb1.mono (by simp))
  clear hb0
  go_wp2
  go_ret2
  exact ⟨by first | rfl | simp, hB1⟩
set_option maxRecDepth 100000 in
set_option maxHeartbeats 2000000 in
theorem print_yes (W H : Int) (A : Option Addr) (n c : Nat) (l : List Int) (w : World) (hn : l.length = n) (hl : Sl w w.heap.size 1 ci A l) (hg : GGood W H l) :
    Calls Try.prog 40 #[.agg #[.int .i64 W, .int .i64 H, .slice A n c]] w fun e w' => e = .returned (.tuple #[.string ⟨(pr W.toNat 0 l).toArray⟩, .int .i64 0]) ∧ Below w.heap.size w w' := by
  have hw := hg.w1
  have hw8 := hg.w8
  have hcell := hg.cell
  have hW := hg.h1
  have hlen : n ≤ 64 ∧ 0 < n := by
    have h1 := hg.len
    have h2 : W * H ≤ 8 * 8 := Int.mul_le_mul hw8 hg.h8 (by omega) (by omega)
    have h3 : 1 * 1 ≤ W * H := Int.mul_le_mul hw hW (by omega) (by omega)
    omega
  have hne : pr W.toNat 0 l ≠ [] := by
    match l, hn with
    | [], hn => simp at hn; omega
    | _ :: _, _ => simp [pr]
  have hb0 : Below w.heap.size w (w.alloc (.cells #[.int .i64 W, .int .i64 H, .slice A n c] 24)) := (Below.refl _ _).alloc (Nat.le_refl _) _
  have key := check_any W H A c l _ ((hl.keep hb0 (Nat.le_refl _)).more hb0.size) (by omega)
  rw [gchk_zero.2 hg, hn] at key
  have hQ := heap_alloc_new w (.cells #[.int .i64 W, .int .i64 H, .slice A n c] 24)
  obtain ⟨a, rfl⟩ : ∃ a : Nat, W = a := ⟨W.toNat, by omega⟩
  simp only [Int.toNat_natCast] at hne ⊢
  have KEY := Lib.hid key
  have HNE := Lib.hid hne
  have HC := Lib.hid hcell
  have HN := Lib.hid hn
  clear key hg hne hcell hn hW
  go_enter Try.func40, Try.ntmps40
  go_wp2_with fail
  refine KEY.out.mono ?_
  rintro e w1 ⟨rfl, hb1⟩
  have hB1 := hb0.trans (hb1.mono (by simp))
  replace hQ := blk_below hQ hb1 (by simp)
  have hsz1 := hb1.size
  simp at hsz1
  have hI := Lib.fresh_isBuilder TB TY w1
  have hlw : w.heap.size < w1.heap.size := by omega
  have hkp : ∀ W', Below w1.heap.size w1 W' → W'.cell? ⟨w.heap.size, 0, none⟩ = some (.int .i64 a) ∧ W'.cell? ⟨w.heap.size, 2, none⟩ = some (.slice A n c) ∧ Sl W' W'.heap.size 1 ci A l ∧ Below w.heap.size w W' := fun W' h => by
    have h0 := blk_below hQ h hlw
    refine ⟨by rw [blk_cell h0]; rfl, by rw [blk_cell h0]; rfl, ?_, hB1.trans (h.mono (by omega))⟩
    have h1 := hB1.trans (h.mono (by omega))
    exact (hl.keep h1 (Nat.le_refl _)).more h1.size
  have HK := Lib.hid hkp
  have B2 : Below w1.heap.size w1 (w1.alloc (.cells #[.pointer none, .slice none 0 0] TB)) := (Below.refl _ _).alloc (Nat.le_refl _) _
  obtain ⟨q0, q2, _, _⟩ := HK.out _ B2
  clear hb0 hb1 hkp hl KEY hQ hB1
  go_wp2
  clear q0 q2
  go_loopw [16] (fun s16 wr => ∃ k : Nat, k ≤ n ∧ s16 = .int .i64 k ∧ Lib.IsBuilder TB TY w1.heap.size w1.heap.size (Lib.byteCells (pr a 0 (l.take k))) wr ∧ Below w1.heap.size w1 wr) (fun s16 _ => n - (intOf s16).toNat)
  case atStart => exact ⟨0, Nat.zero_le _, rfl, hI, B2⟩
  case round =>
    obtain ⟨k, hk, rfl, hIk, Bk⟩ := hrel
    obtain ⟨q0, q2, hsl, BB⟩ := HK.out _ Bk
    have hlk : (pr a 0 (l.take k)).length ≤ 200 := by
      have := pr_small (W := a) (by omega) l k
      omega
    have hza := Bk.size
    by_cases hlt : k < n
    · obtain ⟨b, off, rfl, hbB, hc1⟩ := hsl.atI (by rw [HN.out]; exact hlt)
      have hkl : k < l.length := by rw [HN.out]; exact hlt
      have hv : 0 ≤ l[k] ∧ l[k] ≤ 9 := HC.out _ (List.getElem_mem _)
      have hstep := pr_step (W := a) l k hkl
      generalize l[k] = v at hc1 hv hstep
      clear hkl
      obtain ⟨v0, v9⟩ := hv
      have hix := fun W => sgb_at W v0 v9
      have HST := Lib.hid hstep
      have HLK := Lib.hid hlk
      clear hstep hlk hsl
      go_wp2_with fail
      refine (write_byte _ _ _ _ wr hIk (by rw [Lib.byteCells_length]; have := HLK.out; omega) hza).mono ?_
      rintro e w2 ⟨rfl, hI2, hb2⟩
      have B3 := Bk.trans hb2
      obtain ⟨q0, q2, _, BB⟩ := HK.out _ B3
      have hza2 := B3.size
      have hrm : Int.tmod ((k : Int) + 1) (a : Int) = (((k + 1) % a : Nat) : Int) := by
        rw [Int.tmod_eq_emod_of_nonneg (by omega)]
        simp
      have hr64 : (k + 1) % a ≤ 65 := by
        have := Nat.mod_le (k + 1) a
        omega
      have HS2 := HST.out
      generalize (k + 1) % a = r at hrm HS2 hr64
      by_cases hz : r = 0
      · subst hz
        rw [if_pos rfl] at HS2
        have HS := Lib.hid HS2
        clear HS2 HST
        go_wp2_with fail
        refine (write_byte _ _ _ 10 w2 hI2 (by rw [List.length_append, Lib.byteCells_length]; have := HLK.out; simp; omega) hza2).mono ?_
        rintro e w3 ⟨rfl, hI3, hb3⟩
        have B4 := B3.trans hb3
        go_wp2
        go_roundw
        case rel =>
          refine ⟨k + 1, by omega, by go_num, ?_, B4⟩
          rw [HS.out, Lib.byteCells_append]
          rw [List.append_assoc] at hI3
          exact hI3
        case measure => simp [intOf]; omega
      · rw [if_neg hz] at HS2
        have HS := Lib.hid HS2
        clear HS2 HST
        go_wp2
        go_roundw
        case rel =>
          refine ⟨k + 1, by omega, by go_num, ?_, B3⟩
          rw [HS.out, Lib.byteCells_append]
          exact hI2
        case measure => simp [intOf]; omega
    · obtain rfl : k = n := by omega
      have hfin : pr a 0 (l.take k) = pr a 0 l := by rw [← HN.out, List.take_length]
      rw [hfin] at hIk
      clear hfin hlk hsl
      go_wp2_with fail
      refine (told _ _ _ _ hIk HNE.out).mono ?_
      rintro e w2 ⟨rfl, hb2⟩
      have B3 := (HK.out _ (Bk.trans (hb2.mono (Nat.le_refl _)))).2.2.2
      go_wp2
      go_ret2
      exact ⟨by first | rfl | simp, B3⟩
def RdNo (s : List UInt8) : Prop := ∀ W H l, ¬ Rd s W H l
abbrev ZG : Value := .agg #[.int .i64 0, .int .i64 0, .slice none 0 0]
theorem infoIntM : (Try.prog.info? 3).map (fun i => (i.zero, i.size, i.bytes)) = some (some (.int .i64 0), 1, 8) := by kernel_rfl
theorem str_at (s : ByteArray) (i : Nat) (hi : i < s.data.toList.length) (w : World) : (Instr.index 9 (.string s) (.int .i64 i)).run Try.prog w = .ok (.int .u8 (s.data.toList[i].toNat : Int)) w := by
  have h2 : i < s.size := by rw [Array.length_toList] at hi; exact hi
  rw [run_index_string w 9 s .i64 i Try.underlying9, dif_pos ⟨by omega, by omega⟩]
  simp only [Int.toNat_natCast]
  rfl
theorem rd_skip {a i : Nat} {L : List UInt8} {acc : List Int} (hi : i < L.length) (h : rd a 0 L = (rd a i (L.drop i)).map (acc ++ ·)) (h1 : i % (a + 1) = a) (hb : L[i] = 10) : rd a 0 L = (rd a (i + 1) (L.drop (i + 1))).map (acc ++ ·) := by
  rw [List.drop_eq_getElem_cons hi, rd, if_pos h1, if_pos hb] at h
  exact h
theorem rd_fall {a i : Nat} {L : List UInt8} {acc : List Int} (hi : i < L.length) (h : rd a 0 L = (rd a i (L.drop i)).map (acc ++ ·)) (h1 : i % (a + 1) = a) (hb : L[i] ≠ 10) : rd a 0 L = none := by
  rw [List.drop_eq_getElem_cons hi, rd, if_pos h1, if_neg hb] at h
  exact h
theorem rd_none {a i : Nat} {L : List UInt8} {acc : List Int} (hi : i < L.length) (h : rd a 0 L = (rd a i (L.drop i)).map (acc ++ ·)) (h1 : ¬ i % (a + 1) = a) (hb : sx L[i] < 0) : rd a 0 L = none := by
  rw [List.drop_eq_getElem_cons hi, rd, if_neg h1, if_pos hb] at h
  exact h
theorem rd_take {a i : Nat} {L : List UInt8} {acc : List Int} (hi : i < L.length) (h : rd a 0 L = (rd a i (L.drop i)).map (acc ++ ·)) (h1 : ¬ i % (a + 1) = a) (hb : ¬ sx L[i] < 0) : rd a 0 L = (rd a (i + 1) (L.drop (i + 1))).map ((acc ++ [sx L[i]]) ++ ·) := by
  rw [List.drop_eq_getElem_cons hi, rd, if_neg h1, if_neg hb] at h
  rw [h, Option.map_map]
  congr 1
  funext r
  simp
theorem rdno_of {s : List UInt8} {a : Nat} (hx : Lib.indexByte s 10 = (a : Int)) (h : rd a 0 s = none) : RdNo s := fun W H l k => by
  have e : W = a := by
    have := k.idx.symm.trans hx
    omega
  subst e
  rw [k.told] at h
  cases h
theorem rdno_mod {s : List UInt8} {a : Nat} (hx : Lib.indexByte s 10 = (a : Int)) (h : s.length % (a + 1) ≠ 0) : RdNo s := fun W H l k => by
  have e : W = a := by
    have := k.idx.symm.trans hx
    omega
  subst e
  rw [k.len, Nat.mul_mod_right] at h
  exact h rfl
theorem rdno_div {s : List UInt8} {a : Nat} (hx : Lib.indexByte s 10 = (a : Int)) (h : 8 < s.length / (a + 1)) : RdNo s := fun W H l k => by
  have e : W = a := by
    have := k.idx.symm.trans hx
    omega
  subst e
  rw [k.len, Nat.mul_div_cancel_left _ (by omega)] at h
  have := k.h8
  omega
/-- a round of Read -/
structure Ri (w wr : World) (L : List UInt8) (a q i : Nat) (A : Option Addr) (m c : Nat) (acc : List Int) : Prop where
  box : wr.heap[w.heap.size + 1]? = some (.cells #[.int .i64 a, .int .i64 q, .slice A m c] 24 (0, 0))
  res : wr.heap[w.heap.size]? = some (.cells #[.int .i64 0, .int .i64 0, .slice none 0 0] 24 (0, 0))
  own : Own wr w.heap.size 3 1 ci (.slice A m c) acc
  len : acc.length = m
  le : m ≤ i
  told : rd a 0 L = (rd a i (L.drop i)).map (acc ++ ·)
  below : Below w.heap.size w wr
theorem Ri.next {w wr : World} {L : List UInt8} {a q i : Nat} {A : Option Addr} {m c : Nat} {acc : List Int} (h : Ri w wr L a q i A m c acc) (ht : rd a 0 L = (rd a (i + 1) (L.drop (i + 1))).map (acc ++ ·)) : Ri w wr L a q (i + 1) A m c acc :=
  ⟨h.box, h.res, h.own, h.len, Nat.le_succ_of_le h.le, ht, h.below⟩
theorem set3 {w : World} {B : Nat} {x y z : Value} {t : TypeId} (h : w.heap[B]? = some (.cells #[x, y, z] t (0, 0))) (x' y' z' : Value) :
    (((w.setCell ⟨B, 0, none⟩ x').setCell ⟨B, 1, none⟩ y').setCell ⟨B, 2, none⟩ z').heap[B]? = some (.cells #[x', y', z'] t (0, 0)) := blk_set (blk_set (blk_set h 0 x') 1 y') 2 z'
theorem cells3 {w : World} {B : Nat} {x y z : Value} {t : TypeId} (h : w.heap[B]? = some (.cells #[x, y, z] t (0, 0))) : w.cell? ⟨B, 0, none⟩ = some x ∧ w.cell? ⟨B, 1, none⟩ = some y ∧ w.cell? ⟨B, 2, none⟩ = some z :=
  ⟨blk_cell h 0, blk_cell h 1, blk_cell h 2⟩
theorem below3 {w wr : World} {B : Nat} (h : Below B w wr) (x' y' z' : Value) : Below B w (((wr.setCell ⟨B, 0, none⟩ x').setCell ⟨B, 1, none⟩ y').setCell ⟨B, 2, none⟩ z') :=
  ((h.setCell (p := ⟨B, 0, none⟩) (Nat.le_refl _) _).setCell (p := ⟨B, 1, none⟩) (Nat.le_refl _) _).setCell (p := ⟨B, 2, none⟩) (Nat.le_refl _) _
set_option maxRecDepth 100000 in
set_option maxHeartbeats 4000000 in
theorem read_any (s : ByteArray) (w : World) (hs : s.size ≤ 9223372036854775807) :
    Calls Try.prog 42 #[.string s] w fun e w' => ((∃ (W H : Nat) (l : List Int) (A : Option Addr) (m c : Nat), Rd s.data.toList W H l ∧ e = .returned (.tuple #[.agg #[.int .i64 W, .int .i64 H, .slice A m c], .int .i64 0]) ∧ l.length = m ∧ Own w' w.heap.size 3 1 ci (.slice A m c) l) ∨ (RdNo s.data.toList ∧ e = .returned (.tuple #[ZG, .int .i64 9]))) ∧ Below w.heap.size w w' := by
  have key : ∀ W, Calls Try.prog 71 #[.string s, .int .u8 10] W fun e w' => e = .returned (.int .i64 (Lib.indexByte s.data.toList 10)) ∧ w' = W := fun W => index_byte s 10 W
  obtain ⟨i0, hj0, hj1, hj2, hj3⟩ := info_parts infoIntM
  obtain ⟨x, hx⟩ : ∃ x, Lib.indexByte s.data.toList 10 = x := ⟨_, rfl⟩
  rw [hx] at key
  have hB0 : Below w.heap.size w (w.alloc (.cells #[.int .i64 0, .int .i64 0, .slice none 0 0] 24)) := (Below.refl _ _).alloc (Nat.le_refl _) _
  have hR := heap_alloc_new w (.cells #[.int .i64 0, .int .i64 0, .slice none 0 0] 24)
  have r0 := blk_cell hR 0
  have r1 := blk_cell hR 1
  have r2 := blk_cell hR 2
  have fr0 := blk_free hR 0
  have fr1 := blk_free hR 1
  have fr2 := blk_free hR 2
  simp only [List.getElem?_toArray, List.getElem?_cons_zero, List.getElem?_cons_succ] at r0 r1 r2
  have KEY := Lib.hid key
  have HX := Lib.hid hx
  have hxge : -1 ≤ x := by rw [← hx]; exact Lib.indexByte_ge _ _
  have hsl : s.data.toList.length = s.size := by rw [Array.length_toList]; rfl
  have HSL := Lib.hid hsl
  clear key hx hsl
  by_cases hx1 : x < 1
  · have hno : RdNo s.data.toList := fun W H l h => by
      have := h.idx.symm.trans HX.out
      have := h.w1
      omega
    have HNO := Lib.hid hno
    clear hno
    go_enter Try.func42, Try.ntmps42
    go_wp2_with fail
    refine (KEY.out _).mono ?_
    rintro e w1 ⟨rfl, rfl⟩
    go_wp2
    refine bodyPost_ret (v := .tuple #[ZG, .int .i64 9]) (by simp [results, Try.results42, go_sem, r0, r1, r2]) rfl ⟨.inr ⟨HNO.out, rfl⟩, hB0⟩
  obtain ⟨a, rfl⟩ : ∃ a : Nat, x = a := ⟨x.toNat, by omega⟩
  by_cases hx8 : 8 < (a : Int)
  · have hno : RdNo s.data.toList := fun W H l h => by
      have := h.idx.symm.trans HX.out
      have := h.w8
      omega
    have HNO := Lib.hid hno
    clear hno
    go_enter Try.func42, Try.ntmps42
    go_wp2_with fail
    refine (KEY.out _).mono ?_
    rintro e w1 ⟨rfl, rfl⟩
    go_wp2
    refine bodyPost_ret (v := .tuple #[ZG, .int .i64 9]) (by simp [results, Try.results42, go_sem, r0, r1, r2]) rfl ⟨.inr ⟨HNO.out, rfl⟩, hB0⟩
  have hrm : Int.tmod (s.size : Int) ((a : Int) + 1) = ((s.size % (a + 1) : Nat) : Int) := by
    rw [Int.tmod_eq_emod_of_nonneg (by omega)]
    simp
  have hqm : Int.tdiv (s.size : Int) ((a : Int) + 1) = ((s.size / (a + 1) : Nat) : Int) := by
    rw [Int.tdiv_eq_ediv_of_nonneg (by omega)]
    simp
  have hn1 : s.size % (a + 1) ≠ 0 → RdNo s.data.toList := fun h => rdno_mod HX.out (by rw [HSL.out]; exact h)
  have hn2 : 8 < s.size / (a + 1) → RdNo s.data.toList := fun h => rdno_div HX.out (by rw [HSL.out]; exact h)
  have hdm := Nat.div_add_mod s.size (a + 1)
  have hqs := Nat.div_le_self s.size (a + 1)
  have hrs := Nat.mod_le s.size (a + 1)
  generalize s.size % (a + 1) = rr at hrm hn1 hdm hrs
  generalize s.size / (a + 1) = q at hqm hn2 hdm hqs
  have HDM := Lib.hid hdm
  clear hdm
  by_cases hr0 : rr = 0
  rotate_left
  · have HNO := Lib.hid (hn1 hr0)
    clear hn1 hn2
    go_enter Try.func42, Try.ntmps42
    go_wp2_with fail
    refine (KEY.out _).mono ?_
    rintro e w1 ⟨rfl, rfl⟩
    go_wp2
    refine bodyPost_ret (v := .tuple #[ZG, .int .i64 9]) (by simp [results, Try.results42, go_sem, r0, r1, r2]) rfl ⟨.inr ⟨HNO.out, rfl⟩, hB0⟩
  subst hr0
  clear hn1 hrs
  by_cases hq8 : 8 < q
  · have HNO := Lib.hid (hn2 hq8)
    clear hn2
    go_enter Try.func42, Try.ntmps42
    go_wp2_with fail
    refine (KEY.out _).mono ?_
    rintro e w1 ⟨rfl, rfl⟩
    go_wp2
    refine bodyPost_ret (v := .tuple #[ZG, .int .i64 9]) (by simp [results, Try.results42, go_sem, r0, r1, r2]) rfl ⟨.inr ⟨HNO.out, rfl⟩, hB0⟩
  clear hn2
  have hs72 : s.size ≤ 72 := by
    have h1 := HDM.out
    have h2 : (a + 1) * q ≤ 9 * 8 := Nat.mul_le_mul (by omega) (by omega)
    omega
  go_enter Try.func42, Try.ntmps42
  go_wp2_with fail
  refine (KEY.out _).mono ?_
  rintro e w1 ⟨rfl, rfl⟩
  go_wp2
  go_loopw [42] (fun s42 wr => ∃ (i m c : Nat) (A : Option Addr) (acc : List Int), i ≤ s.size ∧ s42 = .int .i64 i ∧ Hid (Ri w wr s.data.toList a q i A m c acc)) (fun s42 _ => s.size - (intOf s42).toNat)
  case atStart =>
    refine ⟨0, 0, 0, none, [], Nat.zero_le _, rfl, Lib.hid ⟨?_, ?_, Own.nil_, rfl, Nat.le_refl _, by simp, ?_⟩⟩
    · have := heap_alloc_new (w.alloc (.cells #[.int .i64 0, .int .i64 0, .slice none 0 0] 24)) (.cells #[.int .i64 a, .int .i64 q, .slice none 0 0] 24)
      simpa using this
    · exact blk_alloc hR _
    · exact hB0.alloc (by simp) _
  case round =>
    obtain ⟨i, m, c, A, acc, hi, rfl, HR⟩ := hrel
    have g0 := blk_cell HR.out.box 0
    have g1 := blk_cell HR.out.box 1
    have g2 := blk_cell HR.out.box 2
    have fg2 := blk_free HR.out.box 2
    clear r0 r1 r2 fr0 fr1 fr2 hR hB0
    have r0 := blk_cell HR.out.res 0
    have r1 := blk_cell HR.out.res 1
    have r2 := blk_cell HR.out.res 2
    have fr0 := blk_free HR.out.res 0
    have fr1 := blk_free HR.out.res 1
    have fr2 := blk_free HR.out.res 2
    simp only [List.getElem?_toArray, List.getElem?_cons_zero, List.getElem?_cons_succ] at g0 g1 g2 r0 r1 r2
    by_cases hlt : i < s.size
    · have hil : i < s.data.toList.length := by rw [HSL.out]; exact hlt
      have hix := fun W => str_at s i hil W
      have h1 := rd_skip hil HR.out.told
      have h2 := rd_fall hil HR.out.told
      have h3 := rd_none hil HR.out.told
      have h4 := rd_take hil HR.out.told
      generalize s.data.toList[i] = b at hix h1 h2 h3 h4
      have hk2 : ∀ W, Calls Try.prog 71 #[.string sgb, .int .u8 (b.toNat : Int)] W fun e w' => e = .returned (.int .i64 (sx b)) ∧ w' = W := fun W => by
        have e : (b.toNat : Int).toNat.toUInt8 = b := by simp
        have h := index_byte sgb (b.toNat : Int) W
        rw [e] at h
        exact h
      have hz : ((b.toNat : Int) = 10) ↔ b = 10 := by
        constructor
        · intro h
          have h5 : b.toNat = 10 := by omega
          exact UInt8.toNat_inj.1 h5
        · rintro rfl
          rfl
      have hv9 : ¬ sx b < 0 → 0 ≤ sx b ∧ sx b ≤ 9 := fun h => ⟨(sx_bd h).1, (sx_bd h).2.1⟩
      have hvm : -1 ≤ sx b := Lib.indexByte_ge _ _
      generalize (b.toNat : Int) = z at hix hk2 hz
      have hb10 : (b = 10) ∨ (b ≠ 10) := Classical.em _
      generalize sx b = v at hk2 h3 h4 hv9 hvm
      have hrm2 : Int.tmod (i : Int) ((a : Int) + 1) = ((i % (a + 1) : Nat) : Int) := by
        rw [Int.tmod_eq_emod_of_nonneg (by omega)]
        simp
      have hrs2 := Nat.mod_le i (a + 1)
      generalize i % (a + 1) = r at hrm2 h1 h2 h3 h4 hrs2
      have K2 := Lib.hid hk2
      have H1 := Lib.hid h1
      have H2 := Lib.hid h2
      have H3 := Lib.hid h3
      have H4 := Lib.hid h4
      clear hk2 h1 h2 h3 h4 hil
      by_cases hra : r = a
      · subst hra
        rcases hb10 with hb | hb
        · have hz10 : z = 10 := hz.2 hb
          subst hz10
          clear hz
          have HN := Lib.hid (HR.out.next (H1.out rfl hb))
          clear H1 H2 H3 H4 hv9
          go_wp2_with fail
          refine (K2.out _).mono ?_
          rintro e w1 ⟨rfl, rfl⟩
          go_wp2
          go_roundw
          case rel => exact ⟨i + 1, m, c, A, acc, by omega, by go_num, HN⟩
          case measure => simp [intOf]; omega
        · have hzn : (z != 10) = true := by
            rw [bne_iff_ne]
            exact fun h => hb (hz.1 h)
          have HNO := Lib.hid (rdno_of HX.out (H2.out rfl hb))
          clear H1 H2 H3 H4 hv9 hz hb
          go_wp2_with fail
          refine (K2.out _).mono ?_
          rintro e w1 ⟨rfl, rfl⟩
          go_wp2
          obtain ⟨z0, z1, z2⟩ := cells3 (set3 HR.out.res (.int .i64 0) (.int .i64 0) (.slice none 0 0))
          refine bodyPost_ret (v := .tuple #[ZG, .int .i64 9]) (by simp [results, Try.results42, go_sem, z0, z1, z2]) rfl ⟨.inr ⟨HNO.out, rfl⟩, below3 HR.out.below _ _ _⟩
      · by_cases hv0 : v < 0
        · have HNO := Lib.hid (rdno_of HX.out (H3.out hra hv0))
          clear H1 H2 H3 H4 hv9 hz hb10
          go_wp2_with fail
          refine (K2.out _).mono ?_
          rintro e w1 ⟨rfl, rfl⟩
          go_wp2
          obtain ⟨z0, z1, z2⟩ := cells3 (set3 HR.out.res (.int .i64 0) (.int .i64 0) (.slice none 0 0))
          refine bodyPost_ret (v := .tuple #[ZG, .int .i64 9]) (by simp [results, Try.results42, go_sem, z0, z1, z2]) rfl ⟨.inr ⟨HNO.out, rfl⟩, below3 HR.out.below _ _ _⟩
        · have HT := Lib.hid (H4.out hra hv0)
          obtain ⟨v0, v9⟩ := hv9 hv0
          clear H1 H2 H3 H4 hz hb10
          have hnx := HR.out.own.ne_ HR.out.box (by decide)
          have hnr := HR.out.own.ne_ HR.out.res (by decide)
          have hm := HR.out.le
          have hzw := HR.out.below.size
          have HNX := Lib.hid hnx
          have HNR := Lib.hid hnr
          clear hnx hnr
          go_wp2_with fail
          refine (K2.out _).mono ?_
          rintro e w1 ⟨rfl, rfl⟩
          go_wp2_with (at_builtin; refine wpList_push _ rfl (.tmp 50) (.tmp 52) _ rfl w.heap.size 3 i0 (.int .i64 0) 1 8 ci Try.underlying22 hj0 hj1 hj2 hj3 rfl (by decide) _ acc m HR.out.len rfl (HR.out.own.alloc _) w1.heap.size 1 v rfl news1 (fun _ _ => one_ci _ _) (by omega) (by omega) (by simp; omega) ?_; intro A3 c3 w4 hown3 hgrow3 hat3; have hX4 := blk_grown (blk_alloc HR.out.box _) hgrow3 HNX.out; have hR4 := blk_grown (blk_alloc HR.out.res _) hgrow3 HNR.out; have ff4 := blk_free hX4 2; have g4 := blk_cell hX4 2; simp only [List.getElem?_toArray, List.getElem?_cons_zero, List.getElem?_cons_succ] at g4)
          go_roundw
          case rel =>
            refine ⟨i + 1, m + 1, c3, A3, acc ++ [v], by omega, by go_num, Lib.hid ⟨blk_set hX4 2 _, blk_far hR4 (by simp) _, hown3.setCell (hown3.ne_ hX4 (by decide)) _, by simp [HR.out.len], by omega, HT.out, ?_⟩⟩
            exact ((HR.out.below.alloc hzw _).grown hgrow3 (by simp; omega) (fun k hk => HR.out.own.lo k hk)).setCell (p := ⟨w.heap.size + 1, 2, none⟩) (by simp) _
          case measure => simp [intOf]; omega
    · obtain rfl : i = s.size := by omega
      have hrd : Rd s.data.toList a q acc := by
        have h1 := HR.out.told
        rw [List.drop_eq_nil_of_le (by rw [HSL.out]; exact Nat.le_refl _), rd] at h1
        have h2 := HDM.out
        exact ⟨HX.out, by omega, by omega, by rw [HSL.out]; omega, by omega, by rw [h1]; simp⟩
      have HRD := Lib.hid hrd
      clear hrd
      go_wp2
      obtain ⟨z0, z1, z2⟩ := cells3 (set3 HR.out.res (.int .i64 a) (.int .i64 q) (.slice A m c))
      have hne := HR.out.own.ne_ HR.out.res (by decide)
      refine bodyPost_ret (v := .tuple #[.agg #[.int .i64 a, .int .i64 q, .slice A m c], .int .i64 0]) (by simp [results, Try.results42, go_sem, z0, z1, z2]) rfl ⟨.inl ⟨a, q, acc, A, m, c, HRD.out, rfl, HR.out.len, ((HR.out.own.setCell hne _).setCell hne _).setCell hne _⟩, below3 HR.out.below _ _ _⟩
end Go.Proofs.Ytbgkkmcobijkgaa.Maps
