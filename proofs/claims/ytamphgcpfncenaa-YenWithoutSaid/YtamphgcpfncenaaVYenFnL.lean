/- The closure of fellwalker/fellkeep.YenWithout$1, and ContainsFunc with it. -/
import Derived.Test.YtamphgcpfncenaaVHeapWay
import Derived.Test.YtamphgcpfncenaaVStdI
import Derived.Test.YtamphgcpfncenaaVYenMem
namespace Go.Proofs.Ytamphgcpfncenaa.YenFL
open Go.RowKit Go.Proofs.Ytamphgcpfncenaa Go.Proofs.Ytamphgcpfncenaa.Net Go.Proofs.Ytamphgcpfncenaa.Std Go.Proofs.Ytamphgcpfncenaa.HeapW
open Go.Proofs.Ytamphgcpfncenaa.YenF (WRow WRow.keep WRow.at_)
set_option linter.unusedSimpArgs false
set_option linter.unusedVariables false
theorem same_fn (BW kq cq : Nat) (Aq : Option Addr) (q : List Int) (co : Int) (x : SV) (xm : Int) (p : List Int) (w : World) (hbox : w.heap[BW]? = some (.cells #[.slice Aq kq cq, .int .i64 co] 36 (0, 0))) (hq : Sl w w.heap.size 1 ci Aq q) (hkq : q.length = kq) (hp : Sl w w.heap.size 1 ci x.1 p) (hxp : p.length = x.2.1) (hlen : x.2.1 ≤ 9223372036854775807) :
    Calls Try.prog 37 #[.agg #[.slice x.1 x.2.1 x.2.2, .int .i64 xm], .pointer (some ⟨BW, 0, none⟩)] w fun e w' => e = .returned (.bool (decide (p = q))) ∧ Below w.heap.size w w' := by
  have hB : Below w.heap.size w (w.alloc (.cells #[.slice x.1 x.2.1 x.2.2, .int .i64 xm] 36)) := (Below.refl _ _).alloc (Nat.le_refl _) _
  have key := equal_int' x.1 Aq x.2.1 kq x.2.2 cq p q _ _ _ ((hp.keep hB (Nat.le_refl _)).more hB.size) ((hq.keep hB (Nat.le_refl _)).more hB.size) hxp hkq hlen _ rfl
  have hbz := lt_of_block hbox
  have c0 := blk_cell (blk_alloc hbox (.cells #[.slice x.1 x.2.1 x.2.2, .int .i64 xm] 36)) 0
  simp only [List.getElem?_toArray, List.getElem?_cons_zero, List.getElem?_cons_succ] at c0
  obtain ⟨b, hb⟩ : ∃ b, decide (p = q) = b := ⟨_, rfl⟩
  rw [hb] at key ⊢
  have KEY := Lib.hid key
  obtain ⟨A1, n1, c1⟩ := x
  simp only at KEY hB c0 ⊢
  clear key hb hq hp hxp hkq hbox hlen
  go_enter Try.func37, Try.ntmps37
  go_wp2_with fail
  refine KEY.out.mono ?_
  rintro e w2 ⟨rfl, k, hk⟩
  subst hk
  have hB2 := below_drewN hB k
  have HB := Lib.hid hB2
  clear hB hB2 KEY
  go_wp2
  go_ret
  exact ⟨rfl, HB.out⟩
/-- the closure's value -/
def fnS (BW : Nat) : Value := .func (.func 37) #[] #[.pointer (some ⟨BW, 0, none⟩)]
set_option maxHeartbeats 1000000 in
theorem index_same (BW kq cq : Nat) (Aq : Option Addr) (q : List Int) (co : Int) (Ao : Option Addr) (mo cO : Nat) (O : List Pop) (w : World) (h : WRow w Ao O) (hmo : O.length = mo) (hbox : w.heap[BW]? = some (.cells #[.slice Aq kq cq, .int .i64 co] 36 (0, 0))) (hq : Sl w w.heap.size 1 ci Aq q) (hkq : q.length = kq) (hlen : mo ≤ 1000000) :
    Calls Try.prog 75 #[.slice Ao mo cO, fnS BW] w fun e w' => ∃ r : Int, e = .returned (.int .i64 r) ∧ (0 ≤ r ↔ q ∈ O.map (·.2.2)) ∧ Below w.heap.size w w' := by
  subst hmo
  unfold fnS
  have HW := Lib.hid h
  have HBX := Lib.hid hbox
  have HQ := Lib.hid hq
  clear h hbox hq
  go_enter Try.func75, Try.ntmps75
  go_wp2
  go_loopw [8] (fun i wr => ∃ k : Nat, k ≤ O.length ∧ i = .int .i64 k ∧ Hid (q ∉ (O.take k).map (·.2.2)) ∧ Hid (Below w.heap.size w wr)) (fun i _ => O.length - (intOf i).toNat)
  case atStart => exact ⟨0, Nat.zero_le _, rfl, Lib.hid (by simp), Lib.hid (Below.refl _ _)⟩
  case round =>
    obtain ⟨k, hk, rfl, HN, HB⟩ := hrel
    by_cases hlt : k < O.length
    · obtain ⟨b, off, x, xm, p, rfl, hb, he, cx, cm, hp, hpl, hpc⟩ := (HW.out.keep HB.out).at_ hlt
      have kc := same_fn BW kq cq Aq q co x xm p wr (blk_below HBX.out HB.out (lt_of_block HBX.out)) ((HQ.out.keep HB.out (Nat.le_refl _)).more HB.out.size) hkq hp hpl hpc
      have hsn : (O.take (k + 1)).map (·.2.2) = (O.take k).map (·.2.2) ++ [p] := by
        rw [List.take_succ_eq_append_getElem hlt, List.map_append, he]
        rfl
      obtain ⟨bo, hbo⟩ : ∃ bo, decide (p = q) = bo := ⟨_, rfl⟩
      rw [hbo] at kc
      have hin : p ∈ O.map (·.2.2) := List.mem_map.2 ⟨O[k], List.getElem_mem hlt, by rw [he]⟩
      have KC := Lib.hid kc
      have HBO := Lib.hid hbo
      have HIN := Lib.hid hin
      have HSN := Lib.hid hsn
      obtain ⟨A1, n1, c1⟩ := x
      simp only at KC cx hpl hpc
      clear kc hbo hin hsn he hp hpl
      go_wp2_with fail
      refine KC.out.mono ?_
      rintro e w2 ⟨rfl, hB2⟩
      have B2 := HB.out.trans (hB2.mono HB.out.size)
      have HB2 := Lib.hid B2
      clear hB2 B2 KC
      cases bo with
      | true =>
        go_wp2
        go_ret
        exact ⟨k, rfl, ⟨fun _ => by rw [← of_decide_eq_true HBO.out]; exact HIN.out, fun _ => by omega⟩, HB2.out⟩
      | false =>
        go_wp2
        go_roundw
        case rel => exact ⟨k + 1, by omega, by go_num, Lib.hid (by rw [HSN.out, List.mem_append, List.mem_singleton]; rintro (h | h); exact HN.out h; exact of_decide_eq_false HBO.out h.symm), HB2⟩
        case measure => simp [intOf]; omega
    · obtain rfl : k = O.length := by omega
      have hno : q ∉ O.map (·.2.2) := by have := HN.out; rwa [List.take_length] at this
      have HNO := Lib.hid hno
      clear hno
      go_wp2
      go_ret
      exact ⟨-1, rfl, ⟨fun h => absurd h (by omega), fun h => absurd h HNO.out⟩, HB.out⟩
theorem contains_same (BW kq cq : Nat) (Aq : Option Addr) (q : List Int) (co : Int) (Ao : Option Addr) (mo cO : Nat) (O : List Pop) (w : World) (h : WRow w Ao O) (hmo : O.length = mo) (hbox : w.heap[BW]? = some (.cells #[.slice Aq kq cq, .int .i64 co] 36 (0, 0))) (hq : Sl w w.heap.size 1 ci Aq q) (hkq : q.length = kq) (hlen : mo ≤ 1000000) (b : Bool) (hb : decide (q ∈ O.map (·.2.2)) = b) :
    Calls Try.prog 36 #[.slice Ao mo cO, fnS BW] w fun e w' => e = .returned (.bool b) ∧ Below w.heap.size w w' := by
  have key := index_same BW kq cq Aq q co Ao mo cO O w h hmo hbox hq hkq hlen
  unfold fnS at key ⊢
  have KEY := Lib.hid key
  have HB := Lib.hid hb
  clear key h hbox hq hb
  go_enter Try.func36, Try.ntmps36
  go_wp2_with fail
  refine KEY.out.mono ?_
  rintro e w1 ⟨r, rfl, hr, hB⟩
  have HR := Lib.hid hr
  clear hr KEY
  go_wp2
  go_ret
  exact ⟨ret_bool (by rw [← HB.out, Bool.eq_iff_iff, decide_eq_true_eq]; exact HR.out.trans decide_eq_true_iff.symm), hB⟩
end Go.Proofs.Ytamphgcpfncenaa.YenFL
