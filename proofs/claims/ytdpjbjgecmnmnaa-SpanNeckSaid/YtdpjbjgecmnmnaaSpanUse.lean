/- What the Span laws' calls answer, in one form: pairs, Of and Many of edges by their numbers. -/
import Derived.Test.YtdpjbjgecmnmnaaSpanWalks
import Derived.Test.YtdpjbjgecmnmnaaRefs
import Derived.Test.YtdpjbjgecmnmnaaStdCI
namespace Go.Proofs.Ytdpjbjgecmnmnaa.Span
open Go.RowKit Go.Proofs.Ytdpjbjgecmnmnaa NetLaw HeapLaw UnionLaw SpanLaw Go.Proofs.Ytdpjbjgecmnmnaa.Net Go.Proofs.Ytdpjbjgecmnmnaa.Heap Go.Proofs.Ytdpjbjgecmnmnaa.Union Go.Proofs.Ytdpjbjgecmnmnaa.Refs Go.Proofs.Ytdpjbjgecmnmnaa.Std
set_option linter.unusedSimpArgs false
set_option linter.unusedVariables false
/-- groups of edges, as Of answers them -/
def gl (n : Nat) (l : List E) (js : List Nat) : List Int := outL (grp (js.map (es l))) n
theorem gl_len (n : Nat) (l : List E) (js : List Nat) : (gl n l js).length = n := outL_len _ _
theorem of_js (n : Nat) (l : List E) (js : List Nat) (A : Option Addr) (m c : Nat) (w : World) (hn : n ≤ 64) (hm : js.length = m) (h6 : m ≤ 600) (hg : NetLaw.Good n l) (hj : ∀ i ∈ js, i < l.length) (hs : Sl w w.heap.size 2 cp A (pr l js)) :
    Calls Try.prog 42 #[.int .i64 (n : Int), .slice A m c] w fun e w' => ∃ A' c', e = .returned (.tuple #[.slice A' n c', .int .i64 0]) ∧ Own w' w.heap.size 3 1 ci (.slice A' n c') (gl n l js) ∧ Below w.heap.size w w' := by
  refine (of_yes' n A m c (pr l js) w hn (by rw [pr_len]; omega) (by rw [pr_len]; exact hm) (pr_in hg hj) hs).mono ?_
  rintro e w' ⟨f, A', c', hf, hinv, he, ho, hb⟩
  rw [pn_pr] at hinv
  rw [(out_same n hf (grp_le _) hinv (grp_inv _)).1] at ho
  exact ⟨A', c', he, ho, hb⟩
theorem many_js (n : Nat) (l : List E) (js : List Nat) (A : Option Addr) (m c : Nat) (w : World) (hn : n ≤ 64) (hm : js.length = m) (h6 : m ≤ 600) (hg : NetLaw.Good n l) (hj : ∀ i ∈ js, i < l.length) (hs : Sl w w.heap.size 2 cp A (pr l js)) :
    Calls Try.prog 45 #[.int .i64 (n : Int), .slice A m c] w fun e w' => e = .returned (.tuple #[.int .i64 ((n - rk n (js.map (es l)) : Nat) : Int), .int .i64 0]) ∧ Below w.heap.size w w' := by
  subst hm
  have k := many_yes n A c (pr l js) w hn (by rw [pr_len]; omega) (pr_in hg hj) hs
  rw [pr_len] at k
  refine k.mono ?_
  rintro e w' ⟨f, hf, hinv, he, hb⟩
  rw [pn_pr] at hinv
  rw [many_of n hf hinv] at he
  exact ⟨he, hb⟩
/-- what is known from a world on -/
structure From (w0 w4 : World) (N : Int) (A : Option Addr) (c : Nat) (l : List E) (W : World) : Prop where
  below : Below w4.heap.size w4 W
  lo : Below w0.heap.size w0 W
  n0 : W.cell? ⟨w0.heap.size, 0, none⟩ = some (.int .i64 N)
  n1 : W.cell? ⟨w0.heap.size, 1, none⟩ = some (.slice A l.length c)
  net : Sl W W.heap.size 3 ce A l
  lt : w0.heap.size < W.heap.size
theorem From.go {w0 w4 W W' : World} {N : Int} {A : Option Addr} {c : Nat} {l : List E} (h : From w0 w4 N A c l W) (hb : Below W.heap.size W W') : From w0 w4 N A c l W' :=
  ⟨h.below.trans (hb.mono h.below.size), h.lo.trans (hb.mono h.lo.size), ((keepAt hb h.lt).1 0).trans h.n0, ((keepAt hb h.lt).1 1).trans h.n1, (h.net.keep hb (Nat.le_refl _)).more hb.size, Nat.lt_of_lt_of_le h.lt hb.size⟩
theorem From.drew {w0 w4 W : World} {N : Int} {A : Option Addr} {c : Nat} {l : List E} (h : From w0 w4 N A c l W) : From w0 w4 N A c l W.drew := h.go (Below.refl _ _).drew
theorem From.here {w0 w4 W : World} {N : Int} {A : Option Addr} {c : Nat} {l : List E} (h : From w0 w4 N A c l W) : From w0 W N A c l W := ⟨Below.refl _ _, h.lo, h.n0, h.n1, h.net, h.lt⟩
/-- a list of numbers that is read from that world on -/
def Rd (w4 : World) (A : Option Addr) (js : List Nat) : Prop := Sl w4 w4.heap.size 1 ci A (zs js)
theorem Rd.at_ {w0 w4 W : World} {N : Int} {A Aj : Option Addr} {c : Nat} {l : List E} {js : List Nat} (h : Rd w4 Aj js) (hf : From w0 w4 N A c l W) : Sl W W.heap.size 1 ci Aj (zs js) := (h.keep hf.below (Nat.le_refl _)).more hf.below.size
theorem pairs_from {w0 w4 : World} {n : Nat} {A Aj : Option Addr} {c cj m : Nat} {l : List E} {js : List Nat} (W : World) (hf : From w0 w4 n A c l W) (hz : Sl W W.heap.size 1 ci Aj (zs js)) (hm : js.length = m) (hlen : l.length ≤ 600) (hmj : m ≤ 100000) (hj : ∀ i ∈ js, i < l.length) :
    Calls Try.prog 43 #[.agg #[.int .i64 n, .slice A l.length c], .slice Aj m cj] W fun e w' => ∃ A' c', e = .returned (.slice A' m c') ∧ Sl w' w'.heap.size 2 cp A' (pr l js) ∧ From w0 w4 n A c l w' := by
  refine (pairs_any n A c l Aj cj js m W hm hf.net hz hlen hmj hj).mono ?_
  rintro e w' ⟨A', c', he, ho, hb⟩
  exact ⟨A', c', he, ho.sl.2, hf.go hb⟩
theorem of_from {w0 w4 : World} {n : Nat} {A Aj : Option Addr} {c cj m : Nat} {l : List E} {js : List Nat} (W : World) (hf : From w0 w4 n A c l W) (hs : Sl W W.heap.size 2 cp Aj (pr l js)) (hn : n ≤ 64) (hm : js.length = m) (h6 : m ≤ 600) (hg : NetLaw.Good n l) (hj : ∀ i ∈ js, i < l.length) :
    Calls Try.prog 42 #[.int .i64 (n : Int), .slice Aj m cj] W fun e w' => ∃ A' c', e = .returned (.tuple #[.slice A' n c', .int .i64 0]) ∧ Sl w' w'.heap.size 1 ci A' (gl n l js) ∧ From w0 w4 n A c l w' := by
  refine (of_js n l js Aj m cj W hn hm h6 hg hj hs).mono ?_
  rintro e w' ⟨A', c', he, ho, hb⟩
  exact ⟨A', c', he, ho.sl.2, hf.go hb⟩
theorem many_from {w0 w4 : World} {n : Nat} {A Aj : Option Addr} {c cj m : Nat} {l : List E} {js : List Nat} (W : World) (hf : From w0 w4 n A c l W) (hs : Sl W W.heap.size 2 cp Aj (pr l js)) (hn : n ≤ 64) (hm : js.length = m) (h6 : m ≤ 600) (hg : NetLaw.Good n l) (hj : ∀ i ∈ js, i < l.length) :
    Calls Try.prog 45 #[.int .i64 (n : Int), .slice Aj m cj] W fun e w' => e = .returned (.tuple #[.int .i64 ((n - rk n (js.map (es l)) : Nat) : Int), .int .i64 0]) ∧ From w0 w4 n A c l w' := by
  refine (many_js n l js Aj m cj W hn hm h6 hg hj hs).mono ?_
  rintro e w' ⟨he, hb⟩
  exact ⟨he, hf.go hb⟩
theorem many_from' {w0 w4 : World} {n r : Nat} {A Aj : Option Addr} {c cj m : Nat} {l : List E} {js : List Nat} (W : World) (hf : From w0 w4 n A c l W) (hs : Sl W W.heap.size 2 cp Aj (pr l js)) (hn : n ≤ 64) (hm : js.length = m) (h6 : m ≤ 600) (hg : NetLaw.Good n l) (hj : ∀ i ∈ js, i < l.length) (hr : rk n (js.map (es l)) = r) :
    Calls Try.prog 45 #[.int .i64 (n : Int), .slice Aj m cj] W fun e w' => e = .returned (.tuple #[.int .i64 ((n : Int) - (r : Int)), .int .i64 0]) ∧ From w0 w4 n A c l w' := by
  have k := many_from (cj := cj) W hf hs hn hm h6 hg hj
  rw [hr] at k
  have hle := rk_le n (js.map (es l))
  rw [show ((n - r : Nat) : Int) = (n : Int) - (r : Int) by omega] at k
  exact k
theorem all_from {w0 w4 : World} {n : Nat} {A : Option Addr} {c : Nat} {l : List E} (W : World) (hf : From w0 w4 n A c l W) (hlen : l.length ≤ 600) :
    Calls Try.prog 44 #[.agg #[.int .i64 n, .slice A l.length c]] W fun e w' => ∃ A' c', e = .returned (.slice A' l.length c') ∧ Sl w' w'.heap.size 1 ci A' (zs (List.range l.length)) ∧ From w0 w4 n A c l w' := by
  refine (all_any n A c l W hf.net hlen).mono ?_
  rintro e w' ⟨A', c', he, ho, hb⟩
  exact ⟨A', c', he, ho.sl.2, hf.go hb⟩
/-- all that the laws want of what was chosen -/
structure Ch (n : Nat) (l : List E) (out : List Nat) : Prop where
  lt : ∀ i ∈ out, i < l.length
  nd : out.Nodup
  ind : rk n (out.map (es l)) = out.length
  all : gl n l out = gl n l (List.range l.length)
  len : out.length ≤ n
theorem ch_of {n : Nat} {l : List E} {out : List Nat} (h : Kru n l out) : Ch n l out := by
  obtain ⟨dn, c, k, hd⟩ := h.kr
  have hlt : ∀ i ∈ out, i < l.length := fun i hi => (hd i).1 (k.sub i hi)
  refine ⟨hlt, k.ond, by have := k.ind; unfold Ind at this; rw [List.length_map] at this; exact this, ?_, ?_⟩
  · unfold gl
    refine (out_same (l := (List.range l.length).map (es l)) n (grp_le _) (grp_le _) ⟨fun p hp => ?_, fun c hc i => ?_⟩ (grp_inv _)).1
    · rw [List.mem_map] at hp
      obtain ⟨i, hi, rfl⟩ := hp
      exact k.all i ((hd i).2 (List.mem_range.1 hi))
    · refine (grp_inv (out.map (es l))).2 c (fun p hp => hc p ?_) i
      rw [List.mem_map] at hp ⊢
      obtain ⟨j, hj, rfl⟩ := hp
      exact ⟨j, List.mem_range.2 (hlt j hj), rfl⟩
  · have h1 := k.ind
    unfold Ind at h1
    rw [List.length_map] at h1
    rw [← h1]
    exact rk_le n _
theorem good2 : NetLaw.Good ((2 : Nat) : Int) [(0, 1, 5)] := ⟨by decide, by decide, by decide, by decide, by decide⟩
theorem kru2 {out : List Nat} (h : Kru 2 [(0, 1, 5)] out) : out = [0] := by
  obtain ⟨dn, c, k, hd⟩ := h.kr
  have h0 : ∀ i ∈ out, i = 0 := fun i hi => by have := (hd i).1 (k.sub i hi); simp at this; omega
  have hm : 0 ∈ out := by
    have := k.cov 0 ((hd 0).2 (by simp))
    match out, h0 with
    | [], _ => exact absurd this (by unfold cn; decide)
    | x :: r, h0 => rw [← h0 x (by simp)]; simp
  match out, h0, k.ond, hm with
  | [x], h0, _, _ => rw [h0 x (by simp)]
  | x :: y :: r, h0, hn, _ =>
    have a := h0 x (by simp)
    have b := h0 y (by simp)
    simp [a, b] at hn
theorem tree_two (W : World) (g : Nat) (h : Sl W W.heap.size 3 ce (some ⟨g, 0, none⟩) [(0, 1, 5)]) :
    Calls Try.prog 41 #[.agg #[.int .i64 2, .slice (some ⟨g, 0, none⟩) 1 1]] W fun e w' => ∃ A c, e = .returned (.tuple #[.slice A 1 c, .int .i64 0]) ∧ Own w' W.heap.size 3 1 ci (.slice A 1 c) [0] ∧ Below W.heap.size W w' := by
  refine (tree_yes 2 (some ⟨g, 0, none⟩) 1 [(0, 1, 5)] W h good2).mono ?_
  rintro e w' ⟨A, c, out, he, ho, hk, hb⟩
  have := kru2 hk
  subst this
  exact ⟨A, c, he, ho, hb⟩
theorem eq_one (x : Int) (W : World) (A A' : Option Addr) (c c' B B' : Nat) (h : Sl W B 1 ci A [x]) (h' : Sl W B' 1 ci A' [x]) : Calls Try.prog 19 #[.slice A 1 c, .slice A' 1 c'] W fun e w' => e = .returned (.bool true) ∧ ∃ k, w' = W.drewN k :=
  equal_int' A A' 1 1 c c' [x] [x] B B' W h h' rfl rfl (by decide) true (by simp)
end Go.Proofs.Ytdpjbjgecmnmnaa.Span
