/- The walks of package maps (Print, Read), and fellref.SameGrid. -/
import Derived.Test.YtlcgkbkmfelcfaaStrStd
import Derived.Test.YtlcgkbkmfelcfaaStdI
import Derived.Test.YtlcgkbkmfelcfaaMapsLaw
import Derived.Test.YtlcgkbkmfelcfaaGridWalks
import Derived.Test.YtlcgkbkmfelcfaaNetTurn
namespace Go.Proofs.Ytlcgkbkmfelcfaa.Maps
open Go.RowKit Go.Proofs.Ytlcgkbkmfelcfaa GridLaw MapsLaw Go.Proofs.Ytlcgkbkmfelcfaa.Grid Go.Proofs.Ytlcgkbkmfelcfaa.Strs Go.Proofs.Ytlcgkbkmfelcfaa.Std Go.Proofs.Ytlcgkbkmfelcfaa.Net
set_option linter.unusedSimpArgs false
set_option linter.unusedVariables false
abbrev sgb : ByteArray := ⟨#[35, 49, 50, 51, 52, 53, 54, 55, 56, 57]⟩
theorem sgb_at (w : World) {v : Int} (h0 : 0 ≤ v) (h9 : v ≤ 9) : (Instr.index 9 (.string sgb) (.int .i64 v)).run Try.prog w = .ok (.int .u8 ((sg v).toNat : Int)) w := by
  rw [run_index_string w 9 sgb .i64 v Try.underlying9]
  rcases ten h0 h9 with rfl | rfl | rfl | rfl | rfl | rfl | rfl | rfl | rfl | rfl <;> rfl
set_option maxRecDepth 100000 in
set_option maxHeartbeats 1000000 in
theorem same_grid (W H : Int) (A A' : Option Addr) (n c c' : Nat) (l : List Int) (w : World) (hl : Sl w w.heap.size 1 ci A l) (hm : Sl w w.heap.size 1 ci A' l) (hn : l.length = n) (hlen : n ≤ 9223372036854775807) :
    Calls Try.prog 30 #[.agg #[.int .i64 W, .int .i64 H, .slice A n c], .agg #[.int .i64 W, .int .i64 H, .slice A' n c']] w fun e w' => e = .returned (.bool true) ∧ Below w.heap.size w w' := by
  have hb0 : Below w.heap.size w ((w.alloc (.cells #[.int .i64 W, .int .i64 H, .slice A n c] 44)).alloc (.cells #[.int .i64 W, .int .i64 H, .slice A' n c'] 44)) := ((Below.refl _ _).alloc (Nat.le_refl _) _).alloc (by simp) _
  have key := equal_int' A A' n n c c' l l w.heap.size w.heap.size _ (hl.keep hb0 (Nat.le_refl _)) (hm.keep hb0 (Nat.le_refl _)) hn hn hlen true (by simp)
  have KEY := Lib.hid key
  clear key hl hm hn
  go_enter Try.func30, Try.ntmps30
  go_wp2_with fail
  refine KEY.out.mono ?_
  rintro e w1 ⟨rfl, k, rfl⟩
  have hB1 := below_drewN hb0 k
  clear hb0
  go_wp2
  go_ret
  exact ⟨rfl, hB1⟩
set_option maxRecDepth 100000 in
set_option maxHeartbeats 1000000 in
theorem print_no (W H : Int) (A : Option Addr) (n c : Nat) (l : List Int) (w : World) (hn : l.length = n) (hl : Sl w w.heap.size 1 ci A l) (hlen : n ≤ 9223372036854775807) (hg : gchk W H l ≠ 0) :
    Calls Try.prog 27 #[.agg #[.int .i64 W, .int .i64 H, .slice A n c]] w fun e w' => e = .returned (.tuple #[.string ⟨#[]⟩, .int .i64 (gchk W H l)]) ∧ Below w.heap.size w w' := by
  subst hn
  have hb0 : Below w.heap.size w (w.alloc (.cells #[.int .i64 W, .int .i64 H, .slice A l.length c] 44)) := (Below.refl _ _).alloc (Nat.le_refl _) _
  have key := check_any W H A c l _ ((hl.keep hb0 (Nat.le_refl _)).more hb0.size) hlen
  generalize gchk W H l = g at key hg ⊢
  have g0 : (g != 0) = true := by simp [hg]
  have KEY := Lib.hid key
  clear key hl hg
  go_enter Try.func27, Try.ntmps27
  go_wp2_with fail
  refine KEY.out.mono ?_
  rintro e w1 ⟨rfl, hb1⟩
  have hB1 := hb0.trans (hb1.mono (by simp))
  clear hb0
  go_wp2
  go_ret2
  exact ⟨by first | rfl | simp, hB1⟩
set_option maxRecDepth 100000 in
set_option maxHeartbeats 2000000 in
theorem print_yes (W H : Int) (A : Option Addr) (n c : Nat) (l : List Int) (w : World) (hn : l.length = n) (hl : Sl w w.heap.size 1 ci A l) (hg : GGood W H l) :
    Calls Try.prog 27 #[.agg #[.int .i64 W, .int .i64 H, .slice A n c]] w fun e w' => e = .returned (.tuple #[.string ⟨(pr W.toNat 0 l).toArray⟩, .int .i64 0]) ∧ Below w.heap.size w w' := by
  have hw := hg.w1
  have hw8 := hg.w8
  have hcell := hg.cell
  have hW := hg.h1
  have hlen : n ≤ 64 ∧ 0 < n := by
    have h1 := hg.len
    have h2 : W * H ≤ 8 * 8 := Int.mul_le_mul hw8 hg.h8 (by omega) (by omega)
    have h3 : 1 * 1 ≤ W * H := Int.mul_le_mul hw hW (by omega) (by omega)
    omega
  have hne : pr W.toNat 0 l ≠ [] := by
    match l, hn with
    | [], hn => simp at hn; omega
    | _ :: _, _ => simp [pr]
  have hb0 : Below w.heap.size w (w.alloc (.cells #[.int .i64 W, .int .i64 H, .slice A n c] 44)) := (Below.refl _ _).alloc (Nat.le_refl _) _
  have key := check_any W H A c l _ ((hl.keep hb0 (Nat.le_refl _)).more hb0.size) (by omega)
  rw [gchk_zero.2 hg, hn] at key
  have hQ := heap_alloc_new w (.cells #[.int .i64 W, .int .i64 H, .slice A n c] 44)
  obtain ⟨a, rfl⟩ : ∃ a : Nat, W = a := ⟨W.toNat, by omega⟩
  simp only [Int.toNat_natCast] at hne ⊢
  have KEY := Lib.hid key
  have HNE := Lib.hid hne
  have HC := Lib.hid hcell
  have HN := Lib.hid hn
  clear key hg hne hcell hn hW
  go_enter Try.func27, Try.ntmps27
  go_wp2_with fail
  refine KEY.out.mono ?_
  rintro e w1 ⟨rfl, hb1⟩
  have hB1 := hb0.trans (hb1.mono (by simp))
  replace hQ := blk_below hQ hb1 (by simp)
  have hsz1 := hb1.size
  simp at hsz1
  have hI := Lib.fresh_isBuilder TB TY w1
  have hlw : w.heap.size < w1.heap.size := by omega
  have hkp : ∀ W', Below w1.heap.size w1 W' → W'.cell? ⟨w.heap.size, 0, none⟩ = some (.int .i64 a) ∧ W'.cell? ⟨w.heap.size, 2, none⟩ = some (.slice A n c) ∧ Sl W' W'.heap.size 1 ci A l ∧ Below w.heap.size w W' := fun W' h => by
    have h0 := blk_below hQ h hlw
    refine ⟨by rw [blk_cell h0]; rfl, by rw [blk_cell h0]; rfl, ?_, hB1.trans (h.mono (by omega))⟩
    have h1 := hB1.trans (h.mono (by omega))
    exact (hl.keep h1 (Nat.le_refl _)).more h1.size
  have HK := Lib.hid hkp
  have B2 : Below w1.heap.size w1 (w1.alloc (.cells #[.pointer none, .slice none 0 0] TB)) := (Below.refl _ _).alloc (Nat.le_refl _) _
  obtain ⟨q0, q2, _, _⟩ := HK.out _ B2
  clear hb0 hb1 hkp hl KEY hQ hB1
  go_wp2
  clear q0 q2
  go_loopw [16] (fun s16 wr => ∃ k : Nat, k ≤ n ∧ s16 = .int .i64 k ∧ Lib.IsBuilder TB TY w1.heap.size w1.heap.size (Lib.byteCells (pr a 0 (l.take k))) wr ∧ Below w1.heap.size w1 wr) (fun s16 _ => n - (intOf s16).toNat)
  case atStart => exact ⟨0, Nat.zero_le _, rfl, hI, B2⟩
  case round =>
    obtain ⟨k, hk, rfl, hIk, Bk⟩ := hrel
    obtain ⟨q0, q2, hsl, BB⟩ := HK.out _ Bk
    have hlk : (pr a 0 (l.take k)).length ≤ 200 := by
      have := pr_small (W := a) (by omega) l k
      omega
    have hza := Bk.size
    by_cases hlt : k < n
    · obtain ⟨b, off, rfl, hbB, hc1⟩ := hsl.atI (by rw [HN.out]; exact hlt)
      have hkl : k < l.length := by rw [HN.out]; exact hlt
      have hv : 0 ≤ l[k] ∧ l[k] ≤ 9 := HC.out _ (List.getElem_mem _)
      have hstep := pr_step (W := a) l k hkl
      generalize l[k] = v at hc1 hv hstep
      clear hkl
      obtain ⟨v0, v9⟩ := hv
      have hix := fun W => sgb_at W v0 v9
      have HST := Lib.hid hstep
      have HLK := Lib.hid hlk
      clear hstep hlk hsl
      go_wp2_with fail
      refine (write_byte _ _ _ _ wr hIk (by rw [Lib.byteCells_length]; have := HLK.out; omega) hza).mono ?_
      rintro e w2 ⟨rfl, hI2, hb2⟩
      have B3 := Bk.trans hb2
      obtain ⟨q0, q2, _, BB⟩ := HK.out _ B3
      have hza2 := B3.size
      have hrm : Int.tmod ((k : Int) + 1) (a : Int) = (((k + 1) % a : Nat) : Int) := by
        rw [Int.tmod_eq_emod_of_nonneg (by omega)]
        simp
      have hr64 : (k + 1) % a ≤ 65 := by
        have := Nat.mod_le (k + 1) a
        omega
      have HS2 := HST.out
      generalize (k + 1) % a = r at hrm HS2 hr64
      by_cases hz : r = 0
      · subst hz
        rw [if_pos rfl] at HS2
        have HS := Lib.hid HS2
        clear HS2 HST
        go_wp2_with fail
        refine (write_byte _ _ _ 10 w2 hI2 (by rw [List.length_append, Lib.byteCells_length]; have := HLK.out; simp; omega) hza2).mono ?_
        rintro e w3 ⟨rfl, hI3, hb3⟩
        have B4 := B3.trans hb3
        go_wp2
        go_roundw
        case rel =>
          refine ⟨k + 1, by omega, by go_num, ?_, B4⟩
          rw [HS.out, Lib.byteCells_append]
          rw [List.append_assoc] at hI3
          exact hI3
        case measure => simp [intOf]; omega
      · rw [if_neg hz] at HS2
        have HS := Lib.hid HS2
        clear HS2 HST
        go_wp2
        go_roundw
        case rel =>
          refine ⟨k + 1, by omega, by go_num, ?_, B3⟩
          rw [HS.out, Lib.byteCells_append]
          exact hI2
        case measure => simp [intOf]; omega
    · obtain rfl : k = n := by omega
      have hfin : pr a 0 (l.take k) = pr a 0 l := by rw [← HN.out, List.take_length]
      rw [hfin] at hIk
      clear hfin hlk hsl
      go_wp2_with fail
      refine (told _ _ _ _ hIk HNE.out).mono ?_
      rintro e w2 ⟨rfl, hb2⟩
      have B3 := (HK.out _ (Bk.trans (hb2.mono (Nat.le_refl _)))).2.2.2
      go_wp2
      go_ret2
      exact ⟨by first | rfl | simp, B3⟩
def RdNo (s : List UInt8) : Prop := ∀ W H l, ¬ Rd s W H l
abbrev ZG : Value := .agg #[.int .i64 0, .int .i64 0, .slice none 0 0]
theorem infoIntM : (Try.prog.info? 3).map (fun i => (i.zero, i.size, i.bytes)) = some (some (.int .i64 0), 1, 8) := by kernel_rfl
theorem str_at (s : ByteArray) (i : Nat) (hi : i < s.data.toList.length) (w : World) : (Instr.index 9 (.string s) (.int .i64 i)).run Try.prog w = .ok (.int .u8 (s.data.toList[i].toNat : Int)) w := by
  have h2 : i < s.size := by rw [Array.length_toList] at hi; exact hi
  rw [run_index_string w 9 s .i64 i Try.underlying9, dif_pos ⟨by omega, by omega⟩]
  simp only [Int.toNat_natCast]
  rfl
theorem rd_skip {a i : Nat} {L : List UInt8} {acc : List Int} (hi : i < L.length) (h : rd a 0 L = (rd a i (L.drop i)).map (acc ++ ·)) (h1 : i % (a + 1) = a) (hb : L[i] = 10) : rd a 0 L = (rd a (i + 1) (L.drop (i + 1))).map (acc ++ ·) := by
  rw [List.drop_eq_getElem_cons hi, rd, if_pos h1, if_pos hb] at h
  exact h
theorem rd_fall {a i : Nat} {L : List UInt8} {acc : List Int} (hi : i < L.length) (h : rd a 0 L = (rd a i (L.drop i)).map (acc ++ ·)) (h1 : i % (a + 1) = a) (hb : L[i] ≠ 10) : rd a 0 L = none := by
  rw [List.drop_eq_getElem_cons hi, rd, if_pos h1, if_neg hb] at h
  exact h
theorem rd_none {a i : Nat} {L : List UInt8} {acc : List Int} (hi : i < L.length) (h : rd a 0 L = (rd a i (L.drop i)).map (acc ++ ·)) (h1 : ¬ i % (a + 1) = a) (hb : sx L[i] < 0) : rd a 0 L = none := by
  rw [List.drop_eq_getElem_cons hi, rd, if_neg h1, if_pos hb] at h
  exact h
theorem rd_take {a i : Nat} {L : List UInt8} {acc : List Int} (hi : i < L.length) (h : rd a 0 L = (rd a i (L.drop i)).map (acc ++ ·)) (h1 : ¬ i % (a + 1) = a) (hb : ¬ sx L[i] < 0) : rd a 0 L = (rd a (i + 1) (L.drop (i + 1))).map ((acc ++ [sx L[i]]) ++ ·) := by
  rw [List.drop_eq_getElem_cons hi, rd, if_neg h1, if_neg hb] at h
  rw [h, Option.map_map]
  congr 1
  funext r
  simp
theorem rdno_of {s : List UInt8} {a : Nat} (hx : Lib.indexByte s 10 = (a : Int)) (h : rd a 0 s = none) : RdNo s := fun W H l k => by
  have e : W = a := by
    have := k.idx.symm.trans hx
    omega
  subst e
  rw [k.told] at h
  cases h
theorem rdno_mod {s : List UInt8} {a : Nat} (hx : Lib.indexByte s 10 = (a : Int)) (h : s.length % (a + 1) ≠ 0) : RdNo s := fun W H l k => by
  have e : W = a := by
    have := k.idx.symm.trans hx
    omega
  subst e
  rw [k.len, Nat.mul_mod_right] at h
  exact h rfl
theorem rdno_div {s : List UInt8} {a : Nat} (hx : Lib.indexByte s 10 = (a : Int)) (h : 8 < s.length / (a + 1)) : RdNo s := fun W H l k => by
  have e : W = a := by
    have := k.idx.symm.trans hx
    omega
  subst e
  rw [k.len, Nat.mul_div_cancel_left _ (by omega)] at h
  have := k.h8
  omega
/-- a round of Read -/
structure Ri (w wr : World) (L : List UInt8) (a q i : Nat) (A : Option Addr) (m c : Nat) (acc : List Int) : Prop where
  box : wr.heap[w.heap.size + 1]? = some (.cells #[.int .i64 a, .int .i64 q, .slice A m c] 44 (0, 0))
  res : wr.heap[w.heap.size]? = some (.cells #[.int .i64 0, .int .i64 0, .slice none 0 0] 44 (0, 0))
  own : Own wr w.heap.size 3 1 ci (.slice A m c) acc
  len : acc.length = m
  le : m ≤ i
  told : rd a 0 L = (rd a i (L.drop i)).map (acc ++ ·)
  below : Below w.heap.size w wr
theorem Ri.next {w wr : World} {L : List UInt8} {a q i : Nat} {A : Option Addr} {m c : Nat} {acc : List Int} (h : Ri w wr L a q i A m c acc) (ht : rd a 0 L = (rd a (i + 1) (L.drop (i + 1))).map (acc ++ ·)) : Ri w wr L a q (i + 1) A m c acc :=
  ⟨h.box, h.res, h.own, h.len, Nat.le_succ_of_le h.le, ht, h.below⟩
theorem set3 {w : World} {B : Nat} {x y z : Value} {t : TypeId} (h : w.heap[B]? = some (.cells #[x, y, z] t (0, 0))) (x' y' z' : Value) :
    (((w.setCell ⟨B, 0, none⟩ x').setCell ⟨B, 1, none⟩ y').setCell ⟨B, 2, none⟩ z').heap[B]? = some (.cells #[x', y', z'] t (0, 0)) := blk_set (blk_set (blk_set h 0 x') 1 y') 2 z'
theorem cells3 {w : World} {B : Nat} {x y z : Value} {t : TypeId} (h : w.heap[B]? = some (.cells #[x, y, z] t (0, 0))) : w.cell? ⟨B, 0, none⟩ = some x ∧ w.cell? ⟨B, 1, none⟩ = some y ∧ w.cell? ⟨B, 2, none⟩ = some z :=
  ⟨blk_cell h 0, blk_cell h 1, blk_cell h 2⟩
theorem below3 {w wr : World} {B : Nat} (h : Below B w wr) (x' y' z' : Value) : Below B w (((wr.setCell ⟨B, 0, none⟩ x').setCell ⟨B, 1, none⟩ y').setCell ⟨B, 2, none⟩ z') :=
  ((h.setCell (p := ⟨B, 0, none⟩) (Nat.le_refl _) _).setCell (p := ⟨B, 1, none⟩) (Nat.le_refl _) _).setCell (p := ⟨B, 2, none⟩) (Nat.le_refl _) _
set_option maxRecDepth 100000 in
set_option maxHeartbeats 4000000 in
theorem read_any (s : ByteArray) (w : World) (hs : s.size ≤ 9223372036854775807) :
    Calls Try.prog 29 #[.string s] w fun e w' => ((∃ (W H : Nat) (l : List Int) (A : Option Addr) (m c : Nat), Rd s.data.toList W H l ∧ e = .returned (.tuple #[.agg #[.int .i64 W, .int .i64 H, .slice A m c], .int .i64 0]) ∧ l.length = m ∧ Own w' w.heap.size 3 1 ci (.slice A m c) l) ∨ (RdNo s.data.toList ∧ e = .returned (.tuple #[ZG, .int .i64 9]))) ∧ Below w.heap.size w w' := by
  have key : ∀ W, Calls Try.prog 57 #[.string s, .int .u8 10] W fun e w' => e = .returned (.int .i64 (Lib.indexByte s.data.toList 10)) ∧ w' = W := fun W => index_byte s 10 W
  obtain ⟨i0, hj0, hj1, hj2, hj3⟩ := info_parts infoIntM
  obtain ⟨x, hx⟩ : ∃ x, Lib.indexByte s.data.toList 10 = x := ⟨_, rfl⟩
  rw [hx] at key
  have hB0 : Below w.heap.size w (w.alloc (.cells #[.int .i64 0, .int .i64 0, .slice none 0 0] 44)) := (Below.refl _ _).alloc (Nat.le_refl _) _
  have hR := heap_alloc_new w (.cells #[.int .i64 0, .int .i64 0, .slice none 0 0] 44)
  have r0 := blk_cell hR 0
  have r1 := blk_cell hR 1
  have r2 := blk_cell hR 2
  have fr0 := blk_free hR 0
  have fr1 := blk_free hR 1
  have fr2 := blk_free hR 2
  simp only [List.getElem?_toArray, List.getElem?_cons_zero, List.getElem?_cons_succ] at r0 r1 r2
  have KEY := Lib.hid key
  have HX := Lib.hid hx
  have hxge : -1 ≤ x := by rw [← hx]; exact Lib.indexByte_ge _ _
  have hsl : s.data.toList.length = s.size := by rw [Array.length_toList]; rfl
  have HSL := Lib.hid hsl
  clear key hx hsl
  by_cases hx1 : x < 1
  · have hno : RdNo s.data.toList := fun W H l h => by
      have := h.idx.symm.trans HX.out
      have := h.w1
      omega
    have HNO := Lib.hid hno
    clear hno
    go_enter Try.func29, Try.ntmps29
    go_wp2_with fail
    refine (KEY.out _).mono ?_
    rintro e w1 ⟨rfl, rfl⟩
    go_wp2
    refine bodyPost_ret (v := .tuple #[ZG, .int .i64 9]) (by simp [results, Try.results29, go_sem, r0, r1, r2]) rfl ⟨.inr ⟨HNO.out, rfl⟩, hB0⟩
  obtain ⟨a, rfl⟩ : ∃ a : Nat, x = a := ⟨x.toNat, by omega⟩
  by_cases hx8 : 8 < (a : Int)
  · have hno : RdNo s.data.toList := fun W H l h => by
      have := h.idx.symm.trans HX.out
      have := h.w8
      omega
    have HNO := Lib.hid hno
    clear hno
    go_enter Try.func29, Try.ntmps29
    go_wp2_with fail
    refine (KEY.out _).mono ?_
    rintro e w1 ⟨rfl, rfl⟩
    go_wp2
    refine bodyPost_ret (v := .tuple #[ZG, .int .i64 9]) (by simp [results, Try.results29, go_sem, r0, r1, r2]) rfl ⟨.inr ⟨HNO.out, rfl⟩, hB0⟩
  have hrm : Int.tmod (s.size : Int) ((a : Int) + 1) = ((s.size % (a + 1) : Nat) : Int) := by
    rw [Int.tmod_eq_emod_of_nonneg (by omega)]
    simp
  have hqm : Int.tdiv (s.size : Int) ((a : Int) + 1) = ((s.size / (a + 1) : Nat) : Int) := by
    rw [Int.tdiv_eq_ediv_of_nonneg (by omega)]
    simp
  have hn1 : s.size % (a + 1) ≠ 0 → RdNo s.data.toList := fun h => rdno_mod HX.out (by rw [HSL.out]; exact h)
  have hn2 : 8 < s.size / (a + 1) → RdNo s.data.toList := fun h => rdno_div HX.out (by rw [HSL.out]; exact h)
  have hdm := Nat.div_add_mod s.size (a + 1)
  have hqs := Nat.div_le_self s.size (a + 1)
  have hrs := Nat.mod_le s.size (a + 1)
  generalize s.size % (a + 1) = rr at hrm hn1 hdm hrs
  generalize s.size / (a + 1) = q at hqm hn2 hdm hqs
  have HDM := Lib.hid hdm
  clear hdm
  by_cases hr0 : rr = 0
  rotate_left
  · have HNO := Lib.hid (hn1 hr0)
    clear hn1 hn2
    go_enter Try.func29, Try.ntmps29
    go_wp2_with fail
    refine (KEY.out _).mono ?_
    rintro e w1 ⟨rfl, rfl⟩
    go_wp2
    refine bodyPost_ret (v := .tuple #[ZG, .int .i64 9]) (by simp [results, Try.results29, go_sem, r0, r1, r2]) rfl ⟨.inr ⟨HNO.out, rfl⟩, hB0⟩
  subst hr0
  clear hn1 hrs
  by_cases hq8 : 8 < q
  · have HNO := Lib.hid (hn2 hq8)
    clear hn2
    go_enter Try.func29, Try.ntmps29
    go_wp2_with fail
    refine (KEY.out _).mono ?_
    rintro e w1 ⟨rfl, rfl⟩
    go_wp2
    refine bodyPost_ret (v := .tuple #[ZG, .int .i64 9]) (by simp [results, Try.results29, go_sem, r0, r1, r2]) rfl ⟨.inr ⟨HNO.out, rfl⟩, hB0⟩
  clear hn2
  have hs72 : s.size ≤ 72 := by
    have h1 := HDM.out
    have h2 : (a + 1) * q ≤ 9 * 8 := Nat.mul_le_mul (by omega) (by omega)
    omega
  go_enter Try.func29, Try.ntmps29
  go_wp2_with fail
  refine (KEY.out _).mono ?_
  rintro e w1 ⟨rfl, rfl⟩
  go_wp2
  go_loopw [42] (fun s42 wr => ∃ (i m c : Nat) (A : Option Addr) (acc : List Int), i ≤ s.size ∧ s42 = .int .i64 i ∧ Hid (Ri w wr s.data.toList a q i A m c acc)) (fun s42 _ => s.size - (intOf s42).toNat)
  case atStart =>
    refine ⟨0, 0, 0, none, [], Nat.zero_le _, rfl, Lib.hid ⟨?_, ?_, Own.nil_, rfl, Nat.le_refl _, by simp, ?_⟩⟩
    · have := heap_alloc_new (w.alloc (.cells #[.int .i64 0, .int .i64 0, .slice none 0 0] 44)) (.cells #[.int .i64 a, .int .i64 q, .slice none 0 0] 44)
      simpa using this
    · exact blk_alloc hR _
    · exact hB0.alloc (by simp) _
  case round =>
    obtain ⟨i, m, c, A, acc, hi, rfl, HR⟩ := hrel
    have g0 := blk_cell HR.out.box 0
    have g1 := blk_cell HR.out.box 1
    have g2 := blk_cell HR.out.box 2
    have fg2 := blk_free HR.out.box 2
    clear r0 r1 r2 fr0 fr1 fr2 hR hB0
    have r0 := blk_cell HR.out.res 0
    have r1 := blk_cell HR.out.res 1
    have r2 := blk_cell HR.out.res 2
    have fr0 := blk_free HR.out.res 0
    have fr1 := blk_free HR.out.res 1
    have fr2 := blk_free HR.out.res 2
    simp only [List.getElem?_toArray, List.getElem?_cons_zero, List.getElem?_cons_succ] at g0 g1 g2 r0 r1 r2
    by_cases hlt : i < s.size
    · have hil : i < s.data.toList.length := by rw [HSL.out]; exact hlt
      have hix := fun W => str_at s i hil W
      have h1 := rd_skip hil HR.out.told
      have h2 := rd_fall hil HR.out.told
      have h3 := rd_none hil HR.out.told
      have h4 := rd_take hil HR.out.told
      generalize s.data.toList[i] = b at hix h1 h2 h3 h4
      have hk2 : ∀ W, Calls Try.prog 57 #[.string sgb, .int .u8 (b.toNat : Int)] W fun e w' => e = .returned (.int .i64 (sx b)) ∧ w' = W := fun W => by
        have e : (b.toNat : Int).toNat.toUInt8 = b := by simp
        have h := index_byte sgb (b.toNat : Int) W
        rw [e] at h
        exact h
      have hz : ((b.toNat : Int) = 10) ↔ b = 10 := by
        constructor
        · intro h
          have h5 : b.toNat = 10 := by omega
          exact UInt8.toNat_inj.1 h5
        · rintro rfl
          rfl
      have hv9 : ¬ sx b < 0 → 0 ≤ sx b ∧ sx b ≤ 9 := fun h => ⟨(sx_bd h).1, (sx_bd h).2.1⟩
      have hvm : -1 ≤ sx b := Lib.indexByte_ge _ _
      generalize (b.toNat : Int) = z at hix hk2 hz
      have hb10 : (b = 10) ∨ (b ≠ 10) := Classical.em _
      generalize sx b = v at hk2 h3 h4 hv9 hvm
      have hrm2 : Int.tmod (i : Int) ((a : Int) + 1) = ((i % (a + 1) : Nat) : Int) := by
        rw [Int.tmod_eq_emod_of_nonneg (by omega)]
        simp
      have hrs2 := Nat.mod_le i (a + 1)
      generalize i % (a + 1) = r at hrm2 h1 h2 h3 h4 hrs2
      have K2 := Lib.hid hk2
      have H1 := Lib.hid h1
      have H2 := Lib.hid h2
      have H3 := Lib.hid h3
      have H4 := Lib.hid h4
      clear hk2 h1 h2 h3 h4 hil
      by_cases hra : r = a
      · subst hra
        rcases hb10 with hb | hb
        · have hz10 : z = 10 := hz.2 hb
          subst hz10
          clear hz
          have HN := Lib.hid (HR.out.next (H1.out rfl hb))
          clear H1 H2 H3 H4 hv9
          go_wp2_with fail
          refine (K2.out _).mono ?_
          rintro e w1 ⟨rfl, rfl⟩
          go_wp2
          go_roundw
          case rel => exact ⟨i + 1, m, c, A, acc, by omega, by go_num, HN⟩
          case measure => simp [intOf]; omega
        · have hzn : (z != 10) = true := by
            rw [bne_iff_ne]
            exact fun h => hb (hz.1 h)
          have HNO := Lib.hid (rdno_of HX.out (H2.out rfl hb))
          clear H1 H2 H3 H4 hv9 hz hb
          go_wp2_with fail
          refine (K2.out _).mono ?_
          rintro e w1 ⟨rfl, rfl⟩
          go_wp2
          obtain ⟨z0, z1, z2⟩ := cells3 (set3 HR.out.res (.int .i64 0) (.int .i64 0) (.slice none 0 0))
          refine bodyPost_ret (v := .tuple #[ZG, .int .i64 9]) (by simp [results, Try.results29, go_sem, z0, z1, z2]) rfl ⟨.inr ⟨HNO.out, rfl⟩, below3 HR.out.below _ _ _⟩
      · by_cases hv0 : v < 0
        · have HNO := Lib.hid (rdno_of HX.out (H3.out hra hv0))
          clear H1 H2 H3 H4 hv9 hz hb10
          go_wp2_with fail
          refine (K2.out _).mono ?_
          rintro e w1 ⟨rfl, rfl⟩
          go_wp2
          obtain ⟨z0, z1, z2⟩ := cells3 (set3 HR.out.res (.int .i64 0) (.int .i64 0) (.slice none 0 0))
          refine bodyPost_ret (v := .tuple #[ZG, .int .i64 9]) (by simp [results, Try.results29, go_sem, z0, z1, z2]) rfl ⟨.inr ⟨HNO.out, rfl⟩, below3 HR.out.below _ _ _⟩
        · have HT := Lib.hid (H4.out hra hv0)
          obtain ⟨v0, v9⟩ := hv9 hv0
          clear H1 H2 H3 H4 hz hb10
          have hnx := HR.out.own.ne_ HR.out.box (by decide)
          have hnr := HR.out.own.ne_ HR.out.res (by decide)
          have hm := HR.out.le
          have hzw := HR.out.below.size
          have HNX := Lib.hid hnx
          have HNR := Lib.hid hnr
          clear hnx hnr
          go_wp2_with fail
          refine (K2.out _).mono ?_
          rintro e w1 ⟨rfl, rfl⟩
          go_wp2_with (at_builtin; refine wpList_push _ rfl (.tmp 50) (.tmp 52) _ rfl w.heap.size 3 i0 (.int .i64 0) 1 8 ci Try.underlying25 hj0 hj1 hj2 hj3 rfl (by decide) _ acc m HR.out.len rfl (HR.out.own.alloc _) w1.heap.size 1 v rfl news1 (fun _ _ => one_ci _ _) (by omega) (by omega) (by simp; omega) ?_; intro A3 c3 w4 hown3 hgrow3 hat3; have hX4 := blk_grown (blk_alloc HR.out.box _) hgrow3 HNX.out; have hR4 := blk_grown (blk_alloc HR.out.res _) hgrow3 HNR.out; have ff4 := blk_free hX4 2; have g4 := blk_cell hX4 2; simp only [List.getElem?_toArray, List.getElem?_cons_zero, List.getElem?_cons_succ] at g4)
          go_roundw
          case rel =>
            refine ⟨i + 1, m + 1, c3, A3, acc ++ [v], by omega, by go_num, Lib.hid ⟨blk_set hX4 2 _, blk_far hR4 (by simp) _, hown3.setCell (hown3.ne_ hX4 (by decide)) _, by simp [HR.out.len], by omega, HT.out, ?_⟩⟩
            exact ((HR.out.below.alloc hzw _).grown hgrow3 (by simp; omega) (fun k hk => HR.out.own.lo k hk)).setCell (p := ⟨w.heap.size + 1, 2, none⟩) (by simp) _
          case measure => simp [intOf]; omega
    · obtain rfl : i = s.size := by omega
      have hrd : Rd s.data.toList a q acc := by
        have h1 := HR.out.told
        rw [List.drop_eq_nil_of_le (by rw [HSL.out]; exact Nat.le_refl _), rd] at h1
        have h2 := HDM.out
        exact ⟨HX.out, by omega, by omega, by rw [HSL.out]; omega, by omega, by rw [h1]; simp⟩
      have HRD := Lib.hid hrd
      clear hrd
      go_wp2
      obtain ⟨z0, z1, z2⟩ := cells3 (set3 HR.out.res (.int .i64 a) (.int .i64 q) (.slice A m c))
      have hne := HR.out.own.ne_ HR.out.res (by decide)
      refine bodyPost_ret (v := .tuple #[.agg #[.int .i64 a, .int .i64 q, .slice A m c], .int .i64 0]) (by simp [results, Try.results29, go_sem, z0, z1, z2]) rfl ⟨.inl ⟨a, q, acc, A, m, c, HRD.out, rfl, HR.out.len, ((HR.out.own.setCell hne _).setCell hne _).setCell hne _⟩, below3 HR.out.below _ _ _⟩
end Go.Proofs.Ytlcgkbkmfelcfaa.Maps
