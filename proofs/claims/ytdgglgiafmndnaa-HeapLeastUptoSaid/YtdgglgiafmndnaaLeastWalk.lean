/- The walk of heap.Least. -/
import Derived.Test.YtdgglgiafmndnaaHeapLeastW
import Derived.Test.YtdgglgiafmndnaaHeapSort
import Derived.Test.YtdgglgiafmndnaaLeastLaw
namespace Go.Proofs.Ytdgglgiafmndnaa.Heap
open Go.RowKit Go.Proofs.Ytdgglgiafmndnaa HeapLaw LeastLaw Go.Proofs.Ytdgglgiafmndnaa.Net
set_option linter.unusedSimpArgs false
set_option linter.unusedVariables false

/-- the greatest on top -/
def gtP (a b : Pop) : Bool := ltP b a
theorem gtP_ord : HeapLaw.Ord gtP := ⟨fun {a b} h => ltP_ord.asym h, fun {a b c} h1 h2 => ltP_ord.ntr h2 h1⟩
theorem more_any : LessOk 71 gtP := by
  intro W a b x y
  have hB : Below W.heap.size W ((W.alloc (.cells #[.int .i64 a, .int .i64 b] 69)).alloc (.cells #[.int .i64 x, .int .i64 y] 69)) := ((Below.refl _ _).alloc (Nat.le_refl _) _).alloc (by simp) _
  have hz : W.heap.size ≤ ((W.alloc (.cells #[.int .i64 a, .int .i64 b] 69)).alloc (.cells #[.int .i64 x, .int .i64 y] 69)).heap.size := by simp; omega
  have k := less_any ((W.alloc (.cells #[.int .i64 a, .int .i64 b] 69)).alloc (.cells #[.int .i64 x, .int .i64 y] 69)) x y a b
  have hg : gtP (a, b) (x, y) = ltP (x, y) (a, b) := rfl
  rw [hg]
  generalize ltP (x, y) (a, b) = bb at *
  have K := Lib.hid k
  clear k hg
  go_enter Try.func71, Try.ntmps71
  go_wp2_with fail
  refine K.out.mono ?_
  rintro e w1 ⟨rfl, hb1⟩
  go_wp2
  go_ret
  exact ⟨by first | trivial | rfl, hB.trans (hb1.mono hz)⟩
/-- what the heap keeps of a list: L, the n least; G is what it gave away -/
structure Kept (n : Nat) (l L G : List Pop) : Prop where
  perm : (L ++ G).Perm l
  le : ∀ a ∈ L, ∀ b ∈ G, ltP b a = false
  len : L.length = min n l.length
theorem Kept.push {n : Nat} {l L G L2 : List Pop} {x : Pop} (h : Kept n l L G) (hp : L2.Perm (x :: L)) (hn : l.length < n) : Kept n (l ++ [x]) L2 G := by
  have h1 := h.perm.length_eq
  have h2 := h.len
  have h3 := hp.length_eq
  rw [List.length_append] at h1
  have hG : G = [] := List.eq_nil_of_length_eq_zero (by omega)
  subst hG
  refine ⟨?_, (fun a _ b hb => by cases hb), by simp at h3 ⊢; omega⟩
  rw [List.append_nil]
  have h4 := h.perm
  rw [List.append_nil] at h4
  exact hp.trans ((h4.cons x).trans (List.perm_append_comm (l₁ := [x])))
theorem Kept.pop {n : Nat} {l L G L2 L3 : List Pop} {x t : Pop} (h : Kept n l L G) (hp : L2.Perm (x :: L)) (hn : n ≤ l.length) (ht : (t :: L3).Perm L2) (htop : ∀ y ∈ L2, ltP t y = false) : Kept n (l ++ [x]) L3 (t :: G) := by
  have h2 := h.len
  have h3 := hp.length_eq
  have h4 := ht.length_eq
  simp only [List.length_cons] at h3 h4
  refine ⟨?_, fun a ha b hb => ?_, by rw [List.length_append]; simp; omega⟩
  · have p1 : (L3 ++ t :: G).Perm (t :: (L3 ++ G)) := List.perm_middle
    have p2 : (t :: (L3 ++ G)).Perm ((x :: L) ++ G) := (ht.trans hp).append_right G
    have p3 : ((x :: L) ++ G).Perm (x :: l) := h.perm.cons x
    exact p1.trans (p2.trans (p3.trans (List.perm_append_comm (l₁ := [x]))))
  · have ha2 : a ∈ L2 := ht.mem_iff.1 (List.mem_cons_of_mem _ ha)
    rcases List.mem_cons.1 hb with rfl | hb
    · exact htop a ha2
    · have hta := htop a ha2
      have ht2 : t ∈ x :: L := hp.mem_iff.1 (ht.mem_iff.1 (List.mem_cons_self ..))
      rcases List.mem_cons.1 ht2 with e | ht2
      · subst e
        have : a ∈ L := (List.Perm.cons_inv (ht.trans hp)).mem_iff.1 ha
        exact h.le a this b hb
      · exact ltP_ord.ntr hta (h.le t ht2 b hb)
theorem Kept.least {n : Nat} {l L G R : List Pop} (h : Kept n l L G) (hp : R.Perm L) (hs : Srt R) : IsLeast ltP n l R :=
  ⟨hs, by rw [hp.length_eq]; exact h.len, G, (hp.append_right G).trans h.perm, fun a ha b hb => h.le a (hp.mem_iff.1 ha) b hb⟩
/-- what Least answers -/
def LeastSays (n : Nat) (l : List Pop) (w : World) (e : Ending) (w' : World) : Prop :=
  ∃ A c R, e = .returned (.tuple #[.slice A R.length c, .int .i64 0]) ∧ Own w' w.heap.size 69 2 cp (.slice A R.length c) R ∧ IsLeast ltP n l R ∧ Below w.heap.size w w'
theorem least_no (A : Option Addr) (c m : Nat) (n : Int) (w : World) (hn : n < 0) :
    Calls Try.prog 38 #[.slice A m c, .int .i64 n] w fun e w' => e = .returned (.tuple #[.slice none 0 0, .int .i64 1]) ∧ Below w.heap.size w w' := by
  go_enter Try.func38, Try.ntmps38
  go_wp2
  go_ret2
  exact ⟨rfl, Below.refl _ _⟩

set_option maxRecDepth 100000 in
set_option maxHeartbeats 400000 in
theorem least_yes (A : Option Addr) (c m n : Nat) (l : List Pop) (w : World) (hs : Sl w w.heap.size 2 cp A l) (hml : l.length = m) (hlen : m * 16 ≤ 140737488355328) (hn : n ≤ 9223372036854775807) :
    Calls Try.prog 38 #[.slice A m c, .int .i64 (n : Int)] w fun e w' => LeastSays n l w e w' := by
  subst hml
  have knew := new_any 71 w
  unfold fnOf at knew
  have KNEW := Lib.hid knew
  clear knew
  go_enter Try.func38, Try.ntmps38
  go_wp2_with fail
  refine KNEW.out.mono ?_
  rintro e w1 ⟨H, rfl, hh1, hB1⟩
  have HH1 := Lib.hid hh1
  clear hh1
  go_wp2
  go_loopw [14] (fun i wr => ∃ (k m : Nat) (A' : Option Addr) (c' : Nat) (L' G : List Pop), k ≤ l.length ∧ i = .int .i64 k ∧ HeapAt wr w.heap.size H (fnOf 71) A' m c' L' ∧ Kept n (l.take k) L' G ∧ Hp d0 gtP L' ∧ Below w.heap.size w wr) (fun i _ => l.length - (intOf i).toNat)
  case atStart => exact ⟨0, 0, none, 0, [], [], Nat.zero_le _, rfl, HH1.out, ⟨by simp, (fun a h => by cases h), by simp⟩, Hp.nil, hB1⟩
  case round =>
    obtain ⟨k, m, A', c', L', G, hk, rfl, hh, hkt, hhp, hB⟩ := hrel
    clear HH1
    have hm : m = min n k := by have := hkt.len; rw [hh.len, List.length_take] at this; omega
    by_cases hlt : k < l.length
    · obtain ⟨b, off, x, y, rfl, hbB, he, hcx, hcy⟩ := sl_atP (hs.keep hB (Nat.le_refl _)) hlt
      have hz := hB.size
      have kp := push_least gtP gtP_ord more_any w.heap.size H A' m c' L' x y (wr.alloc (.cells #[.int .i64 x, .int .i64 y] 69)) (hh.alloc _) hhp (by omega) (by simp; omega)
      have hst : (l.take (k + 1)) = l.take k ++ [(x, y)] := by rw [List.take_succ_eq_append_getElem hlt, he]
      have hB0 := hB.alloc hz (.cells #[.int .i64 x, .int .i64 y] 69)
      have hz0 : w.heap.size ≤ (wr.alloc (.cells #[.int .i64 x, .int .i64 y] 69)).heap.size := by simp; omega
      have hlo : ∀ S, (Value.slice A' m c').ownBlock = some S → w.heap.size ≤ S := hh.own.lo
      have KP := Lib.hid kp
      have HST := Lib.hid hst
      have HKT := Lib.hid hkt
      have HM := Lib.hid hm
      have hHb := hh.hb
      have hkl : (l.take k).length = k := by rw [List.length_take]; omega
      have HKL := Lib.hid hkl
      clear kp hst hkt hh he hs hm hkl
      go_wp2_with fail
      refine KP.out.mono ?_
      rintro e w2 ⟨⟨v, rfl⟩, A2, c2, L2, hh2, hpm2, hhp2, hkp, _⟩
      have hB2 := hB0.trans (hkp.to hz0 hHb hlo)
      have klen := len_any w2 hh2
      have HH2 := Lib.hid hh2
      have HPM := Lib.hid hpm2
      have KLEN := Lib.hid klen
      clear hkp klen hh2 hpm2
      go_wp2_with fail
      refine KLEN.out.mono ?_
      rintro e w3 ⟨rfl, rfl⟩
      have hz2 := hB2.size
      by_cases hgt : n < m + 1
      · have kpop := pop_least gtP gtP_ord more_any w.heap.size H A2 m c2 L2 w3 HH2.out hhp2 (by have := HM.out; omega) hz2
        have htop := hhp2.top_mem gtP_ord
        have hlo2 : ∀ S, (Value.slice A2 (m + 1) c2).ownBlock = some S → w.heap.size ≤ S := HH2.out.own.lo
        have hgi : (n : Int) < (m : Int) + 1 := by omega
        have KPOP := Lib.hid kpop
        have HTOP := Lib.hid htop
        clear kpop htop hhp2
        go_wp2_with fail
        refine KPOP.out.mono ?_
        rintro e w4 ⟨p, q, L5, rfl, hg0, hh5, hpm5, hhp5, hkp⟩
        have hB4 := hB2.trans (hkp.to hz2 hHb hlo2)
        have hkn : n ≤ (l.take k).length := by rw [HKL.out]; have := HM.out; omega
        have hk5 := HKT.out.pop HPM.out hkn hpm5 (fun y hy => by have := HTOP.out y hy; rw [hg0] at this; exact this)
        rw [← HST.out] at hk5
        have HK5 := Lib.hid hk5
        have HH5 := Lib.hid hh5
        clear hkp hk5 hh5 hpm5 hg0 hkn
        go_wp2
        go_roundw
        case rel => exact ⟨k + 1, m, A2, c2, L5, _, by omega, by go_num, HH5.out, HK5.out, hhp5, hB4⟩
        case measure => simp [intOf]; omega
      · have hkn : (l.take k).length < n := by rw [HKL.out]; have := HM.out; omega
        have hk5 := HKT.out.push HPM.out hkn
        rw [← HST.out] at hk5
        have HK5 := Lib.hid hk5
        have hgi : ¬ ((n : Int) < (m : Int) + 1) := by omega
        clear hk5 hkn
        go_wp2
        go_roundw
        case rel => exact ⟨k + 1, m + 1, A2, c2, L2, _, by omega, by go_num, HH2.out, HK5.out, hhp2, hB2⟩
        case measure => simp [intOf]; omega
    · obtain rfl : k = l.length := by omega
      rw [List.take_length] at hkt
      have hz := hB.size
      have hlo := hh.own
      have c1 := blk_cell hh.blk 1
      simp only [List.getElem?_toArray, List.getElem?_cons_zero, List.getElem?_cons_succ] at c1
      have ks := sort_any A' c' L' wr hh.own.sl.2 (by rw [hh.len]; omega)
      rw [hh.len] at ks
      have hl := hh.len
      have KS := Lib.hid ks
      have HKT := Lib.hid hkt
      have HL := Lib.hid hl
      clear ks hkt hh hlo hs hl hhp hm
      go_wp2_with fail
      refine KS.out.mono ?_
      rintro e w2 ⟨A5, c5, R, rfl, ho, hp, hsr, hB5⟩
      rw [HL.out] at ho ⊢
      have hR : m = R.length := by rw [hp.length_eq, HL.out]
      have HR := Lib.hid hR
      have HP := Lib.hid hp
      have HS := Lib.hid hsr
      have HO := Lib.hid ho
      clear hp hsr ho hR
      go_wp2
      go_ret2
      exact ⟨A5, c5, R, by rw [← HR.out]; rfl, by rw [← HR.out]; exact HO.out.mono hz, HKT.out.least HP.out HS.out, hB.trans (hB5.mono hz)⟩
end Go.Proofs.Ytdgglgiafmndnaa.Heap
