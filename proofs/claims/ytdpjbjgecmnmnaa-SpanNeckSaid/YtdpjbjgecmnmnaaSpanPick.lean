/- Edges taken in any order, each if it joins something; what they cost. -/
import Derived.Test.YtdpjbjgecmnmnaaSpanUse
import Derived.Test.YtdpjbjgecmnmnaaWithin
namespace Go.Proofs.Ytdpjbjgecmnmnaa.Span
open Go.RowKit Go.Proofs.Ytdpjbjgecmnmnaa NetLaw HeapLaw UnionLaw SpanLaw Go.Proofs.Ytdpjbjgecmnmnaa.Net Go.Proofs.Ytdpjbjgecmnmnaa.Heap Go.Proofs.Ytdpjbjgecmnmnaa.Union Go.Proofs.Ytdpjbjgecmnmnaa.Refs Go.Proofs.Ytdpjbjgecmnmnaa.Std Go.Proofs.Ytdpjbjgecmnmnaa.Within
set_option linter.unusedSimpArgs false
set_option linter.unusedVariables false
theorem wi_self {i n : Nat} (h : i < n) (hn : n ≤ 1000) : wi (i : Int) n = i := by
  have h1 := (wi_spec (i : Int) n (by omega) hn).1
  have e : IntKind.u64.wrap (i : Int) = i := by simp [IntKind.wrap, IntKind.bits, IntKind.signed]; omega
  rw [e, Int.tmod_eq_of_lt (by omega) (by omega)] at h1
  have e2 : wrap64 (i : Int) = i := by unfold wrap64; omega
  omega
/-- what was taken of the first k -/
structure Pk (n : Nat) (l : List E) (L : List Int) (k : Nat) (ot : List Nat) : Prop where
  lt : ∀ i ∈ ot, i < l.length
  ind : rk n (ot.map (es l)) = ot.length
  cov : ∀ j (h : j < L.length), j < k → cn (ot.map (es l)) (es l (wi L[j] l.length)).1 (es l (wi L[j] l.length)).2
section
variable {n k : Nat} {l : List E} {L : List Int} {ot out : List Nat}
theorem Pk.start (n : Nat) (l : List E) (L : List Int) : Pk n l L 0 [] := ⟨fun i h => (by cases h), rk_nil n, fun j _ h => absurd h (Nat.not_lt_zero _)⟩
theorem Pk.len (h : Pk n l L k ot) : ot.length ≤ n := by rw [← h.ind]; exact rk_le _ _
theorem Pk.next (h : Pk n l L k ot) (hg : NetLaw.Good n l) (hk : k < L.length) {v : Nat} (hv : wi L[k] l.length = v) (hvl : v < l.length) :
    (rk n ((ot ++ [v]).map (es l)) = ot.length ∧ Pk n l L (k + 1) ot) ∨ (rk n ((ot ++ [v]).map (es l)) = ot.length + 1 ∧ Pk n l L (k + 1) (ot ++ [v])) := by
  rw [List.map_append, List.map_singleton]
  by_cases hc : cn (ot.map (es l)) (es l v).1 (es l v).2
  · refine .inl ⟨by rw [rk_yes hc, h.ind], h.lt, h.ind, fun j hj hjk => ?_⟩
    rcases Nat.lt_or_ge j k with hlt | hge
    · exact h.cov j hj hlt
    · obtain rfl : j = k := by omega
      rw [hv]; exact hc
  · have e := rk_no (n := n) (es_bd hg hvl) hc
    rw [h.ind] at e
    refine .inr ⟨e, fun i hi => ?_, by rw [List.map_append, List.map_singleton, e]; simp, fun j hj hjk => ?_⟩
    · rcases List.mem_append.1 hi with h1 | h1
      · exact h.lt i h1
      · rw [List.mem_singleton] at h1; subst h1; exact hvl
    · rw [List.map_append, List.map_singleton]
      rcases Nat.lt_or_ge j k with hlt | hge
      · exact cn_mono (fun p hp => List.mem_append_left _ hp) (h.cov j hj hlt)
      · obtain rfl : j = k := by omega
        rw [hv]
        exact cn_mem (p := es l v) (by simp)
theorem Pk.fin {ord : List Int} (h : Pk n l (ord ++ zs (List.range l.length)) k ot) (hg : NetLaw.Good n l) (h6 : l.length ≤ 600) (hkk : k = ord.length + l.length) (hk : Kru n l out) : ot.length = out.length ∧ cs (co l) out ≤ cs (co l) ot := by
  subst hkk
  have hall : ∀ i, i < l.length → cn (ot.map (es l)) (es l i).1 (es l i).2 := fun i hi => by
    have hL : ord.length + i < (ord ++ zs (List.range l.length)).length := by rw [List.length_append, zs_len, List.length_range]; omega
    have e : (ord ++ zs (List.range l.length))[ord.length + i] = (i : Int) := by
      rw [List.getElem_append_right (by omega)]
      simp [zs]
    have k := h.cov (ord.length + i) hL (by omega)
    rw [e, wi_self hi (by omega)] at k
    exact k
  obtain ⟨dn, c, kr, hd⟩ := hk.kr
  have hbd : ∀ i ∈ dn, (es l i).1 < n ∧ (es l i).2 < n := fun i hi => es_bd hg ((hd i).1 hi)
  have hbo : InB n (out.map (es l)) := inb_map fun i hi => hbd i (kr.sub i hi)
  have hbt : InB n (ot.map (es l)) := inb_map fun i hi => es_bd hg (h.lt i hi)
  have hio : rk n (out.map (es l)) = out.length := (ch_of hk).ind
  have h1 : rk n (out.map (es l)) ≤ rk n (ot.map (es l)) := rk_sub hbo hbt fun p hp => by
    rw [List.mem_map] at hp
    obtain ⟨i, hi, rfl⟩ := hp
    exact hall i ((hd i).1 (kr.sub i hi))
  have h2 : rk n (ot.map (es l)) ≤ rk n (out.map (es l)) := rk_sub hbt hbo fun p hp => by
    rw [List.mem_map] at hp
    obtain ⟨i, hi, rfl⟩ := hp
    exact kr.all i ((hd i).2 (h.lt i hi))
  have hlen : ot.length = out.length := by have := h.ind; omega
  refine ⟨hlen, sum_dom 10000 (fun i _ => co_bd hg i) (fun i _ => co_bd hg i) hlen.symm fun c => ?_⟩
  refine kr.dom hbd (fun i hi => (hd i).2 (h.lt i hi)) ?_ c
  unfold Ind
  rw [h.ind, List.length_map]
end
theorem good2b : NetLaw.Good ((2 : Nat) : Int) [(0, 1, 5), (1, 0, 4)] := ⟨by decide, by decide, by decide, by decide, by decide⟩
theorem kru2b {out : List Nat} (h : Kru 2 [(0, 1, 5), (1, 0, 4)] out) : out = [1] := by
  obtain ⟨dn, c, k, hd⟩ := h.kr
  have h0 : ∀ i ∈ out, i = 0 ∨ i = 1 := fun i hi => by have := (hd i).1 (k.sub i hi); simp at this; omega
  have hm : 1 ∈ out := by
    have := k.cov 1 ((hd 1).2 (by simp))
    refine Classical.byContradiction fun hn => ?_
    rw [List.filter_eq_nil_iff.2 (fun j hj => by
      rcases h0 j hj with rfl | rfl
      · decide
      · exact absurd hj hn)] at this
    exact absurd this (by unfold cn; decide)
  have hl : out.length ≤ 1 := by
    have h1 : rk 2 (out.map (es [(0, 1, 5), (1, 0, 4)])) = out.length := (ch_of h).ind
    have h2 : rk 2 (out.map (es [(0, 1, 5), (1, 0, 4)])) ≤ rk 2 [(0, 1)] := rk_sub (inb_map fun i hi => es_bd good2b ((hd i).1 (k.sub i hi))) (by unfold InB; decide) fun p hp => by
      rw [List.mem_map] at hp
      obtain ⟨i, hi, rfl⟩ := hp
      rcases h0 i hi with rfl | rfl
      · unfold cn; decide
      · unfold cn; decide
    have h3 : rk 2 [(0, 1)] ≤ 1 := by decide
    omega
  match out, hl, hm with
  | [x], _, hm => simp at hm; rw [← hm]
theorem tree_pair (W : World) (g : Nat) (h : Sl W W.heap.size 3 ce (some ⟨g, 0, none⟩) [(0, 1, 5), (1, 0, 4)]) :
    Calls Try.prog 41 #[.agg #[.int .i64 2, .slice (some ⟨g, 0, none⟩) 2 2]] W fun e w' => ∃ A c, e = .returned (.tuple #[.slice A 1 c, .int .i64 0]) ∧ Own w' W.heap.size 3 1 ci (.slice A 1 c) [1] ∧ Below W.heap.size W w' := by
  refine (tree_yes 2 (some ⟨g, 0, none⟩) 2 [(0, 1, 5), (1, 0, 4)] W h good2b).mono ?_
  rintro e w' ⟨A, c, out, he, ho, hk, hb⟩
  have := kru2b hk
  subst this
  exact ⟨A, c, he, ho, hb⟩
theorem cs_take {co : Nat → Int} {js : List Nat} {k : Nat} (h : k < js.length) : cs co (js.take (k + 1)) = cs co (js.take k) + co js[k] := by
  unfold cs
  rw [List.take_succ_eq_append_getElem h, List.map_append, List.sum_append]
  simp
theorem cs_bd {co : Nat → Int} (h : ∀ i, -10000 ≤ co i ∧ co i ≤ 10000) (js : List Nat) : -10000 * (js.length : Int) ≤ cs co js ∧ cs co js ≤ 10000 * (js.length : Int) := by
  induction js with
  | nil => exact ⟨by simp [cs], by simp [cs]⟩
  | cons x r ih =>
    have e : cs co (x :: r) = co x + cs co r := by simp [cs]
    have := h x
    rw [e, List.length_cons]
    omega
set_option maxRecDepth 100000 in
set_option maxHeartbeats 1000000 in
theorem cost_any {n : Nat} (g : Nat) (A : Option Addr) (c : Nat) (l : List E) (Aj : Option Addr) (cj : Nat) (js : List Nat) (m : Nat) (w : World) (B B' : Nat) (hm : js.length = m) (h6 : m ≤ 600) (hg : NetLaw.Good n l)
    (hb : w.cell? ⟨g, 1, none⟩ = some (.slice A l.length c)) (hl : Sl w B 3 ce A l) (hz : Sl w B' 1 ci Aj (zs js)) (hj : ∀ i ∈ js, i < l.length) :
    Calls Try.prog 46 #[.slice Aj m cj, .pointer (some ⟨g, 0, none⟩)] w fun e w' => e = .returned (.int .i64 (cs (co l) js)) ∧ w' = w := by
  have hcb := fun i => co_bd hg i
  have hl6 := hg.len
  have HM := Lib.hid hm
  have HCB := Lib.hid hcb
  have HJ := Lib.hid hj
  clear hm hcb hg hj
  go_enter Try.func46, Try.ntmps46
  go_wp2
  go_loopw [4, 9] (fun s i wr => ∃ k : Nat, k ≤ m ∧ i = .int .i64 k ∧ s = .int .i64 (cs (co l) (js.take k)) ∧ w = wr) (fun _ i _ => m - (intOf i).toNat)
  case atStart => exact ⟨0, Nat.zero_le _, rfl, by simp [cs], rfl⟩
  case round =>
    obtain ⟨k, hk, rfl, rfl, rfl⟩ := hrel
    by_cases hlt : k < m
    · have hko : k < js.length := by rw [HM.out]; exact hlt
      have hkz : k < (zs js).length := by rw [zs_len]; exact hko
      obtain ⟨bo, oo, rfl, hbo, hc⟩ := Sl.atI hz hkz
      have hzk : (zs js)[k] = ((js[k] : Nat) : Int) := by simp [zs]
      have hil := HJ.out _ (List.getElem_mem hko)
      have hst := cs_take (co := co l) hko
      have hbd := cs_bd HCB.out (js.take k)
      have hbi := HCB.out js[k]
      have hln : (js.take k).length = k := by rw [List.length_take]; omega
      rw [hln] at hbd
      rw [hzk] at hc
      generalize js[k] = i at *
      obtain ⟨b, off, f, t, x, rfl, hbB, he, hcf, hct, hcc⟩ := hl.atE hil
      have hx : co l i = x := by unfold co; rw [getD_at hil, he]
      rw [hx] at hst hbi
      have HST := Lib.hid hst
      have e4 : (i : Int) < (l.length : Int) := by omega
      clear hst hx hzk hkz hko he hln
      generalize cs (co l) (js.take k) = y at *
      have hyx : IntKind.i64.wrap (y + x) = y + x := by simp [IntKind.wrap, IntKind.bits, IntKind.signed]; omega
      go_wp2
      go_roundw
      case rel => exact ⟨k + 1, by omega, by go_num, by rw [HST.out], by trivial⟩
      case measure => simp [intOf]; omega
    · obtain rfl : k = m := by omega
      have e : js.take k = js := List.take_of_length_le (by rw [HM.out]; exact Nat.le_refl _)
      have E := Lib.hid e
      clear e
      go_wp2
      go_ret
      refine ⟨congrArg (fun x => Ending.returned (.int .i64 (cs (co l) x))) E.out, rfl⟩
end Go.Proofs.Ytdpjbjgecmnmnaa.Span
