/- The walk of heap.Sort. -/
import Derived.Test.YtdpjbjgecmnmnaaHeapPop
import Derived.Test.YtdpjbjgecmnmnaaHeapLess
namespace Go.Proofs.Ytdpjbjgecmnmnaa.Heap
open Go.RowKit Go.Proofs.Ytdpjbjgecmnmnaa HeapLaw Go.Proofs.Ytdpjbjgecmnmnaa.Net
set_option linter.unusedSimpArgs false
set_option linter.unusedVariables false

/-- in order -/
def Srt (L : List Pop) : Prop := L.Pairwise fun a b => ltP b a = false
theorem srt_unique {L M : List Pop} (hL : Srt L) (hM : Srt M) (h : L.Perm M) : L = M :=
  h.eq_of_pairwise (fun a b _ _ h1 h2 => ltP_anti h2 h1) hL hM
theorem srt_snoc {O : List Pop} {a : Pop} (h : Srt O) (ha : ∀ x ∈ O, ltP a x = false) : Srt (O ++ [a]) := by
  unfold Srt at *
  rw [List.pairwise_append]
  exact ⟨h, List.pairwise_singleton _ _, fun x hx y hy => by rw [List.mem_singleton] at hy; subst hy; exact ha x hx⟩
/-- one element of a slice of pairs -/
theorem sl_atP {w : World} {B : Nat} {A : Option Addr} {l : List Pop} (h : Sl w B 2 cp A l) {k : Nat} (hk : k < l.length) :
    ∃ b off f t, A = some ⟨b, off, none⟩ ∧ b < B ∧ l[k] = (f, t) ∧ w.cell? ⟨b, off + k * 2, none⟩ = some (.int .i64 f) ∧ w.cell? ⟨b, off + k * 2 + 1, none⟩ = some (.int .i64 t) := by
  obtain ⟨b, off, hA, hlt, hc⟩ := h (by omega)
  exact ⟨b, off, _, _, hA, hlt, rfl, hc k hk 0 (by omega), hc k hk 1 (by omega)⟩
theorem Own_kp {α : Type} {sz : Nat} {cell : α → Nat → Value} {w w' : World} {base : Nat} {e : TypeId} {v : Value} {l : List α} {H : Nat} {row : Option Nat} (h : Own w base e sz cell v l) (hk : Kp w w' H row) (hn : ∀ g, v.ownBlock = some g → g ≠ H ∧ row ≠ some g) : Own w' base e sz cell v l := by
  refine ⟨h.1, ?_⟩
  rcases h.2 with h1 | ⟨g, cap, cur, rfl, hg, hh, r⟩
  · exact .inl h1
  · exact .inr ⟨g, cap, cur, rfl, hg, (hk.block g (lt_of_block hh) (hn g rfl).1 (fun e => (hn g rfl).2 e.symm)).trans hh, r⟩
theorem HeapAt.grown {w w' : World} {base H : Nat} {fn : Value} {A : Option Addr} {n c : Nat} {L : List Pop} {row : Option Nat} (h : HeapAt w base H fn A n c L) (hg : w.grownBy w' row) (hnH : row ≠ some H) (hnS : ∀ S, (Value.slice A n c).ownBlock = some S → row ≠ some S) : HeapAt w' base H fn A n c L := by
  refine ⟨h.hb, blk_grown h.blk hg hnH, h.own.kept hg ?_, h.len⟩
  cases hb : (Value.slice A n c).ownBlock with
  | none => exact .inl rfl
  | some S => exact .inr (fun e => hnS S hb e.symm)
theorem ob (A : Option Addr) (n m c : Nat) : (Value.slice A n c).ownBlock = (Value.slice A m c).ownBlock := by cases A <;> rfl
/-- what Sort answers -/
def SortSays (l : List Pop) (w : World) (e : Ending) (w' : World) : Prop :=
  ∃ A c L, e = .returned (.slice A l.length c) ∧ Own w' w.heap.size 109 2 cp (.slice A l.length c) L ∧ L.Perm l ∧ Srt L ∧ Below w.heap.size w w'
/-- what lies between the two loops -/
structure Mid (l : List Pop) (base : Nat) (w : World) (H : Nat) (A : Option Addr) (m c : Nat) (L : List Pop) (A2 : Option Addr) (j c2 : Nat) (O : List Pop) : Prop where
  heap : HeapAt w base H (fnOf 79) A m c L
  hp : Hp d0 ltP L
  own : Own w base 109 2 cp (.slice A2 j c2) O
  len : O.length = j
  perm : (O ++ L).Perm l
  srt : Srt O
  le : ∀ a ∈ O, ∀ b ∈ L, ltP b a = false
  ne : ∀ g, (Value.slice A2 j c2).ownBlock = some g → g ≠ H ∧ (Value.slice A m c).ownBlock ≠ some g

set_option maxRecDepth 100000 in
set_option maxHeartbeats 4000000 in
theorem sort_any (A : Option Addr) (c : Nat) (l : List Pop) (w : World) (hs : Sl w w.heap.size 2 cp A l) (hlen : l.length * 16 ≤ 140737488355328) :
    Calls Try.prog 86 #[.slice A l.length c] w fun e w' => SortSays l w e w' := by
  obtain ⟨i0, hi, hz0, hz1, hz2⟩ := info_parts infoPop
  have knew := new_any 79 w
  unfold fnOf at knew
  have KNEW := Lib.hid knew
  clear knew
  go_enter Try.func86, Try.ntmps86
  go_wp2_with fail
  refine KNEW.out.mono ?_
  rintro e w1 ⟨H, rfl, hh1, hB1⟩
  have HH1 := Lib.hid hh1
  clear hh1
  go_wp2
  go_loopw [10] (fun i wr => ∃ (k : Nat) (A' : Option Addr) (c' : Nat) (L' : List Pop), k ≤ l.length ∧ i = .int .i64 k ∧ HeapAt wr w.heap.size H (fnOf 79) A' k c' L' ∧ L'.Perm (l.take k) ∧ Hp d0 ltP L' ∧ Below w.heap.size w wr) (fun i _ => l.length - (intOf i).toNat)
  case atStart => exact ⟨0, none, 0, [], Nat.zero_le _, rfl, HH1.out, by simp, Hp.nil, hB1⟩
  case round =>
    obtain ⟨k, A', c', L', hk, rfl, hh, hpm, hhp, hB⟩ := hrel
    clear HH1
    by_cases hlt : k < l.length
    · obtain ⟨b, off, x, y, rfl, hbB, he, hcx, hcy⟩ := sl_atP (hs.keep hB (Nat.le_refl _)) hlt
      have hz := hB.size
      have kp := push_any ltP ltP_ord less_any w.heap.size H A' k c' L' x y (wr.alloc (.cells #[.int .i64 x, .int .i64 y] 109)) (hh.alloc _) hhp (by omega) (by simp; omega)
      have hst : (l.take (k + 1)) = l.take k ++ [(x, y)] := by rw [List.take_succ_eq_append_getElem hlt, he]
      have hB0 := hB.alloc hz (.cells #[.int .i64 x, .int .i64 y] 109)
      have hz0 : w.heap.size ≤ (wr.alloc (.cells #[.int .i64 x, .int .i64 y] 109)).heap.size := by simp; omega
      have hlo : ∀ S, (Value.slice A' k c').ownBlock = some S → w.heap.size ≤ S := hh.own.lo
      have KP := Lib.hid kp
      have HST := Lib.hid hst
      have HPM := Lib.hid hpm
      have hHb := hh.hb
      clear kp hst hpm hh he hs
      go_wp2_with fail
      refine KP.out.mono ?_
      rintro e w2 ⟨⟨v, rfl⟩, A2, c2, L2, hh2, hpm2, hhp2, hkp, _⟩
      have hB2 := hB0.trans (hkp.to hz0 hHb hlo)
      clear hkp
      go_wp2
      go_roundw
      case rel =>
        refine ⟨k + 1, A2, c2, L2, by omega, by go_num, hh2, ?_, hhp2, hB2⟩
        rw [HST.out]
        exact hpm2.trans ((HPM.out.cons _).trans (List.perm_append_comm (l₁ := [(x, y)])))
      case measure => simp [intOf]; omega
    · obtain rfl : k = l.length := by omega
      rw [List.take_length] at hpm
      have mid0 : Mid l w.heap.size wr H A' l.length c' L' none 0 0 [] := ⟨hh, hhp, Own.nil_, rfl, by simpa using hpm, List.Pairwise.nil, (fun a h => by cases h), (fun g h => by cases h)⟩
      have MID0 := Lib.hid mid0
      have hB9 := hB
      clear mid0 hh hhp hpm hs
      go_wp2
      go_loopw [6] (fun o wr => ∃ (j m : Nat) (A' : Option Addr) (c' : Nat) (L' : List Pop) (A2 : Option Addr) (c2 : Nat) (O : List Pop), o = .slice A2 j c2 ∧ j + m = l.length ∧ Mid l w.heap.size wr H A' m c' L' A2 j c2 O ∧ Below w.heap.size w wr) (fun o _ => l.length - (match o with | .slice _ j _ => j | _ => 0))
      case atStart => exact ⟨0, l.length, A', c', L', none, 0, [], rfl, by omega, MID0.out, hB9⟩
      case round =>
        clear MID0
        obtain ⟨j, m, A3, c3, L3, A4, c4, O, rfl, hjm, hm, hBr⟩ := hrel
        have hz := hBr.size
        have hH := hm.heap
        have klen := len_any wr hH
        by_cases hm0 : m = 0
        · subst hm0
          have hL3 : L3 = [] := List.eq_nil_of_length_eq_zero hH.len
          have hfin : O.Perm l := by have := hm.perm; rw [hL3, List.append_nil] at this; exact this
          have hj : j = l.length := by omega
          have KLEN := Lib.hid klen
          have HM := Lib.hid hm
          have HFIN := Lib.hid hfin
          have HJ := Lib.hid hj
          clear klen hm hfin hj hH hjm hL3
          go_wp2_with fail
          refine KLEN.out.mono ?_
          rintro e w2 ⟨rfl, rfl⟩
          go_wp2
          go_ret
          exact ⟨A4, c4, O, by rw [HJ.out]; rfl, by rw [← HJ.out]; exact HM.out.own, HFIN.out, HM.out.srt, hBr⟩
        · obtain ⟨n, rfl⟩ : ∃ n, m = n + 1 := ⟨m - 1, by omega⟩
          have kpop := pop_any ltP ltP_ord less_any w.heap.size H A3 n c3 L3 wr hH hm.hp (by omega) hz
          have htop := hm.hp.top_mem ltP_ord
          have hlo : ∀ S, (Value.slice A3 (n + 1) c3).ownBlock = some S → w.heap.size ≤ S := hH.own.lo
          have hbas := hH.own.base_
          have hHb := hH.hb
          have hHl := hH.lt
          have KLEN := Lib.hid klen
          have KPOP := Lib.hid kpop
          have HM := Lib.hid hm
          have HTOP := Lib.hid htop
          have hj6 : (j + 1) * 16 ≤ 140737488355328 := by omega
          have HJM := Lib.hid hjm
          clear klen kpop hm htop hH hm0 hjm
          go_wp2_with fail
          refine KLEN.out.mono ?_
          rintro e w2 ⟨rfl, rfl⟩
          go_wp2_with fail
          refine KPOP.out.mono ?_
          rintro e w3 ⟨p, q, L5, rfl, hg0, hh5, hpm5, hhp5, hkp⟩
          have hm := HM.out
          have hown3 := Own_kp hm.own hkp (fun g hg => hm.ne g hg)
          have hB3 := hBr.trans (hkp.to hz hHb hlo)
          have hz3 := hB3.size
          have HH5 := Lib.hid hh5
          have HP5 := Lib.hid hpm5
          have HHP5 := Lib.hid hhp5
          have HG0 := Lib.hid hg0
          have hlen4 := hm.len
          have hH5l := hh5.lt
          have hbas5 := hh5.own.base_
          clear hh5 hpm5 hhp5 hg0 hm
          have HKP := Lib.hid hkp
          clear hkp
          go_wp2_with (at_builtin; refine wpList_push _ rfl (.tmp 21) (.tmp 24) _ rfl w.heap.size 109 i0 _ 2 16 cp Try.underlying116 hi hz0 hz1 hz2 rfl (by decide) _ O j hlen4 rfl (hown3.alloc _) w3.heap.size 1 (p, q) rfl news2 (fun _ _ => one_cp _ _) (by omega) (by omega) (by simp; omega) ?_; intro A6 c6 w4 hown6 hgrow6 hat6)
          have hm := HM.out
          have hne := hm.ne
          have hg4 : w3.grownBy w4 (Value.slice A4 j c4).ownBlock := ⟨hgrow6.os, hgrow6.tape, hgrow6.output, by have := hgrow6.size; simp at this; omega, fun g hg h1 => (hgrow6.block g (by simp; omega) h1).trans (Below.heap_alloc _ _ _ hg)⟩
          have hnH : (Value.slice A4 j c4).ownBlock ≠ some H := fun e => (hne H e).1 rfl
          have hnS : ∀ S, (Value.slice A3 n c3).ownBlock = some S → (Value.slice A4 j c4).ownBlock ≠ some S := fun S hS e => (hne S e).2 ((ob ..).trans hS)
          have hh6 := HH5.out.grown hg4 hnH hnS
          have hB4 : Below w.heap.size w w4 := hB3.grown hg4 hz3 hown3.lo
          have hmem : (p, q) ∈ L3 := HP5.out.mem_iff.1 (List.mem_cons_self ..)
          have hmid : Mid l w.heap.size w4 H A3 n c3 L5 A6 (j + 1) c6 (O ++ [(p, q)]) := by
            refine ⟨hh6, HHP5.out, hown6, by simp [hlen4], ?_, srt_snoc hm.srt (fun x hx => hm.le x hx _ hmem), fun a ha b hb => ?_, fun g hg => ?_⟩
            · rw [List.append_assoc]
              exact (HP5.out.append_left O).trans hm.perm
            · have hb3 : b ∈ L3 := HP5.out.mem_iff.1 (List.mem_cons_of_mem _ hb)
              rcases List.mem_append.1 ha with h | h
              · exact hm.le a h b hb3
              · rw [List.mem_singleton] at h
                subst h
                rw [← HG0.out]
                exact HTOP.out b hb3
            · rcases hat6 with h1 | h1
              · exact ⟨(hne g (h1.symm.trans hg)).1, fun e => (hne g (h1.symm.trans hg)).2 ((ob ..).trans e)⟩
              · rw [h1] at hg
                injection hg with hg
                simp at hg
                exact ⟨by omega, fun e => by have := (hbas5 g ((ob ..).trans e)).2; omega⟩
          have HMID := Lib.hid hmid
          clear hmid hm hne hgrow6 hat6 hown6 hown3 hh6 hmem hg4
          go_wp2
          go_roundw
          case rel => exact ⟨j + 1, n, A3, c3, L5, A6, c6, O ++ [(p, q)], rfl, by have := HJM.out; omega, HMID.out, hB4⟩
          case measure => simp; have := HJM.out; omega
end Go.Proofs.Ytdpjbjgecmnmnaa.Heap
