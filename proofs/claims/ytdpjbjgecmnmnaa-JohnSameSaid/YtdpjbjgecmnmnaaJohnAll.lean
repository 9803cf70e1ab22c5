/- The walks of john.Lift and john.All. -/
import Derived.Test.YtdpjbjgecmnmnaaJohnPlain
import Derived.Test.YtdpjbjgecmnmnaaJohnWalks
import Derived.Test.YtdpjbjgecmnmnaaDijkRun
import Derived.Test.YtdpjbjgecmnmnaaRowsInt
import Derived.BigRegion
namespace Go.Proofs.Ytdpjbjgecmnmnaa.John
open Go.RowKit Go.Proofs.Ytdpjbjgecmnmnaa NetLaw BellLaw DijkLaw FloydLaw JohnLaw JohnPlain Go.Proofs.Ytdpjbjgecmnmnaa.Net Go.Proofs.Ytdpjbjgecmnmnaa.Bell Go.Proofs.Ytdpjbjgecmnmnaa.Dijk Go.Proofs.Ytdpjbjgecmnmnaa.RowsInt Go.Proofs.Ytdpjbjgecmnmnaa.Std
set_option linter.unusedSimpArgs false
set_option linter.unusedVariables false
/-- what Lift answers -/
def LiftSays (N : Int) (l : List E) (w : World) (e : Ending) (w' : World) : Prop :=
  (jerr N l ≠ 0 → e = .returned (.tuple #[.slice none 0 0, .int .i64 (jerr N l)])) ∧
  (jerr N l = 0 → ∃ S, e = .returned (.tuple #[.slice (some ⟨S, 0, none⟩) N.toNat N.toNat, .int .i64 0]) ∧ Own w' w.heap.size 3 1 ci (.slice (some ⟨S, 0, none⟩) N.toNat N.toNat) (hs N.toNat l).1) ∧ Below w.heap.size w w'

set_option maxRecDepth 100000 in
set_option maxHeartbeats 4000000 in
theorem lift_any (N : Int) (A : Option Addr) (c : Nat) (l : List E) (w : World) (hl : Sl w w.heap.size 3 ce A l) (hlen : l.length ≤ 9223372036854775807) :
    Calls Try.prog 56 #[.agg #[.int .i64 N, .slice A l.length c]] w fun e w' => LiftSays N l w e w' := by
  have key := fun W hs => check_any N A c l W hs hlen
  have hw0 : Below w.heap.size w (w.alloc (.cells #[.int .i64 N, .slice A l.length c] 24)) := (Below.refl _ _).alloc (Nat.le_refl _) _
  have hl0 := (hl.keep hw0 (Nat.le_refl _)).more (show w.heap.size ≤ (w.alloc (.cells #[.int .i64 N, .slice A l.length c] 24)).heap.size by simp)
  by_cases hg : chk N l = 0
  · rw [hg] at key
    have KEY := Lib.hid key
    clear key
    have hgood := chk_zero.1 hg
    have hN1 := hgood.lo
    have hN2 := hgood.hi
    obtain ⟨n, rfl⟩ := Int.eq_ofNat_of_zero_le (show 0 ≤ N by omega)
    have he : jerr n l = if 0 ≤ (hs n l).2.2 then 6 else 0 := by rw [jerr, if_neg (by simpa using hg)]; rfl
    have hmk : ∀ w, (Instr.makeSlice 25 (.int .i64 (n : Int)) (.int .i64 (n : Int))).run Try.prog w = .ok (.slice (some ⟨w.heap.size, 0, none⟩) n n) (w.alloc (.cells (madeCells #[.int .i64 0] n) 3)) :=
      run_make_row' (P := Try.prog) 25 3 (.int .i64 0) 8 Try.underlying25 (by kernel_rfl) rfl .i64 .i64 n (by omega) (by omega)
    have HE := Lib.hid he
    have HG := Lib.hid hgood
    clear he hg hgood
    go_enter Try.func56, Try.ntmps56
    go_wp2_with fail
    refine (KEY.out _ hl0).mono ?_
    rintro e w1 ⟨rfl, hb1⟩
    have B1 : Below (w.heap.size + 1) _ w1 := hb1.mono (by simp)
    have H1 := hw0.trans (B1.mono (Nat.le_succ _))
    have Z1 : w.heap.size + 1 ≤ w1.heap.size := by have := hb1.size; simp at this; omega
    have hO := blk_below (heap_alloc_new w (.cells #[.int .i64 n, .slice A l.length c] 24)) B1 (Nat.lt_succ_self _)
    have q0 := blk_cell hO 0
    have q1 := blk_cell hO 1
    simp only [List.getElem?_toArray, List.getElem?_cons_zero, List.getElem?_cons_succ] at q0 q1
    clear hb1 hl0 hO
    have own0 := Grid.own_made n w1.heap.size w1 (Nat.le_refl _) (by omega) rfl
    have H2 : Below w.heap.size w (w1.alloc (.cells (madeCells #[.int .i64 0] n) 3)) := H1.alloc (by omega) _
    have kr := fun W (hW : W = w1.alloc (.cells (madeCells #[.int .i64 0] n) 3)) => relax_any n A c l w1.heap.size n (List.replicate n 0) W (by rw [hW]; simp) (by rw [hW]; exact (hl.keep H2 (Nat.le_refl _)).more (by omega)) (by rw [hW]; exact own0) (by simp) (by omega) (by omega) HG.out.len HG.out.ends HG.out.cost (fun v hv => by rw [List.getD_eq_getElem?_getD, List.getElem?_replicate, if_pos hv]; decide)
    have KR := Lib.hid kr
    have HH2 := Lib.hid H2
    have HH1 := Lib.hid H1
    have z1 : w.heap.size < w1.heap.size := by omega
    clear kr own0 hl H2 H1 B1
    go_wp2_with fail
    refine (KR.out _ rfl).mono ?_
    rintro e w3 ⟨D, P, last, hre, rfl, hrl⟩
    have hfin := HE.out
    have hre2 : hs n l = (D, P, last) := hre
    rw [hre2] at hfin
    have H3 : Below w.heap.size w w3 := HH2.out.trans (hrl.lo.mono (by omega))
    have HRL := Lib.hid hrl
    have HRE := Lib.hid hre2
    clear hre hre2 hrl HE q0 q1 HH2 HH1
    by_cases hneg : 0 ≤ last
    · rw [if_pos hneg] at hfin
      have HF := Lib.hid hfin
      clear hfin
      go_wp2
      go_ret2
      rw [LiftSays, HF.out]
      exact ⟨fun _ => rfl, fun h => absurd h (by decide), H3⟩
    · rw [if_neg hneg] at hfin
      have HF := Lib.hid hfin
      clear hfin
      go_wp2
      go_ret2
      simp only [LiftSays, HF.out, Int.toNat_natCast, HRE.out]
      exact ⟨fun h => absurd rfl h, fun _ => ⟨w1.heap.size, rfl, HRL.out.d.mono (by omega)⟩, H3⟩
  · have he : jerr N l = chk N l := by rw [jerr, if_pos hg]
    simp only [LiftSays, he]
    have KEY := Lib.hid key
    clear key he
    have hne : (chk N l != 0) = true := by rw [bne_iff_ne]; exact hg
    generalize chk N l = x at *
    go_enter Try.func56, Try.ntmps56
    go_wp2_with fail
    refine (KEY.out _ hl0).mono ?_
    rintro e w1 ⟨rfl, hb1⟩
    have H1 := hw0.trans (hb1.mono (by simp))
    clear hl hl0 hb1
    go_wp2
    go_ret2
    exact ⟨fun _ => rfl, fun h => absurd h hg, H1⟩

/-- a row's cell in the table -/
def cr (n : Nat) (b : Nat) (_ : Nat) : Value := .slice (some ⟨b, 0, none⟩) n n
theorem own_apart {α β : Type} {w : World} {b1 b2 s1 s2 : Nat} {e1 e2 : TypeId} {c1 : α → Nat → Value} {c2 : β → Nat → Value} {v1 v2 : Value} {l1 : List α} {l2 : List β} (h1 : Own w b1 e1 s1 c1 v1 l1) (h2 : Own w b2 e2 s2 c2 v2 l2) (hne : e1 ≠ e2) : v1.ownBlock = none ∨ v1.ownBlock ≠ v2.ownBlock := by
  rcases h1.2 with ⟨rfl, _⟩ | ⟨g, cap, cur, rfl, _, hh, _⟩
  · exact .inl rfl
  · exact .inr fun e => h2.ne_ hh (fun e => hne e.symm) e.symm
/-- a table of rows that grew -/
structure Js (w : World) (base n k : Nat) (A : Option Addr) (c : Nat) (G : List Nat) (M : Nat → Nat → Int) : Prop where
  own : Own w base 25 1 (cr n) (.slice A k c) G
  len : G.length = k
  row : ∀ i (hi : i < G.length), Own w base 3 1 ci (.slice (some ⟨G[i], 0, none⟩) n n) ((List.range n).map (M i))
section
variable {w w' : World} {base n k c : Nat} {A : Option Addr} {G : List Nat} {M : Nat → Nat → Int}
theorem Js.nil (w : World) (base n : Nat) (M : Nat → Nat → Int) : Js w base n 0 none 0 [] M := ⟨Own.nil_, rfl, fun i hi => absurd hi (Nat.not_lt_zero _)⟩
theorem Js.keep (h : Js w base n k A c G M) (hb : Below w.heap.size w w') : Js w' base n k A c G M := ⟨h.own.keep hb, h.len, fun i hi => (h.row i hi).keep hb⟩
theorem Js.push (h : Js w base n k A c G M) {S c' : Nat} {A' : Option Addr} (hg : w.grownBy w' (Value.slice A k c).ownBlock) (ho : Own w' base 25 1 (cr n) (.slice A' (k + 1) c') (G ++ [S])) (hr : Own w base 3 1 ci (.slice (some ⟨S, 0, none⟩) n n) ((List.range n).map (M k))) : Js w' base n (k + 1) A' c' (G ++ [S]) M := by
  refine ⟨ho, by rw [List.length_append, h.len]; rfl, fun i hi => ?_⟩
  rw [List.length_append, List.length_singleton] at hi
  rcases Nat.lt_or_ge i G.length with hlt | hge
  · rw [List.getElem_append_left hlt]
    exact (h.row i hlt).kept hg (own_apart (h.row i hlt) h.own (by decide))
  · obtain rfl : i = G.length := by omega
    rw [List.getElem_append_right (Nat.le_refl _)]
    simp only [Nat.sub_self, List.getElem_cons_zero]
    rw [h.len]
    exact hr.kept hg (own_apart hr h.own (by decide))
theorem Js.sr (h : Js w base n n A c G M) : Sr w w.heap.size A (rows n M) := fun hl => by
  rw [rows_len] at hl
  obtain ⟨S, c2, hv, _, hS, _, hc⟩ := h.own.some_ (by rw [h.len]; exact hl)
  injection hv with hv _ _
  subst hv
  refine ⟨S, 0, rfl, hS, fun i hi => ?_⟩
  have hi' : i < G.length := by rw [rows_len] at hi; rw [h.len]; exact hi
  have h1 := (hc i hi' 0 (by decide)).1
  obtain ⟨_, hsl⟩ := (h.row i hi').sl
  have hrow : (rows n M)[i] = (List.range n).map (M i) := rows_get n M hi
  refine ⟨some ⟨G[i], 0, none⟩, n, ?_, by rw [hrow]; exact hsl⟩
  rw [hrow, List.length_map, List.length_range]
  simpa [cr] using h1
end
/-- the first j of one, the rest of the other -/
def mx (X D : List Int) (j : Nat) : List Int := X.take j ++ D.drop j
theorem mx_len {X D : List Int} {n j : Nat} (hX : X.length = n) (hD : D.length = n) (hj : j ≤ n) : (mx X D j).length = n := by simp [mx]; omega
theorem mx_get {X D : List Int} {n j : Nat} (hX : X.length = n) (hD : D.length = n) (hj : j < n) : (mx X D j).getD j 0 = D.getD j 0 := by
  have e : j = (X.take j).length := by rw [List.length_take]; omega
  unfold mx
  rw [List.getD_eq_getElem?_getD, List.getD_eq_getElem?_getD, List.getElem?_append_right (by omega), ← e, Nat.sub_self, List.getElem?_drop, Nat.add_zero]
theorem mx_set {X D : List Int} {n j : Nat} (hX : X.length = n) (hD : D.length = n) (hj : j < n) (x : Int) (hx : X.getD j 0 = x) : (mx X D j).set j x = mx X D (j + 1) := by
  have e : (X.take j).length = j := by rw [List.length_take]; omega
  have hxj : X[j]'(by omega) = x := by rw [← hx, List.getD_eq_getElem?_getD, List.getElem?_eq_getElem (by omega)]; rfl
  unfold mx
  rw [List.set_append_right _ _ (by omega), e, Nat.sub_self, List.drop_eq_getElem_cons (show j < D.length by omega), List.set_cons_zero, List.take_succ_eq_append_getElem (show j < X.length by omega), hxj, List.append_assoc]
  rfl
theorem mx_same {X D : List Int} {n j : Nat} (hX : X.length = n) (hD : D.length = n) (hj : j < n) (hx : X.getD j 0 = D.getD j 0) : mx X D j = mx X D (j + 1) := by
  have h := mx_set hX hD hj _ hx
  rw [← h, ← mx_get hX hD hj]
  have hl : j < (mx X D j).length := by rw [mx_len hX hD (by omega)]; exact hj
  rw [List.getD_eq_getElem?_getD, List.getElem?_eq_getElem hl]
  simp
theorem jr_len (h : List Int) (u : Nat) (D : List Int) : (jr h u D).length = D.length := by simp [jr]
theorem jr_get (h : List Int) (u : Nat) (D : List Int) {j : Nat} (hj : j < D.length) : (jr h u D).getD j 0 = if D.getD j 0 < far then D.getD j 0 + (ht h j - ht h u) else D.getD j 0 := by
  unfold jr
  rw [List.getD_eq_getElem?_getD, List.getElem?_map, List.getElem?_range hj]
  rfl
theorem infoSl : (Try.prog.info? 25).map (fun i => (i.zero, i.size, i.bytes)) = some (some (.slice none 0 0), 1, 24) := by kernel_rfl
theorem news1r {w : World} {e : TypeId} {n S g : Nat} (hg : w.heap.size = g) : ∀ j, j < 1 → (w.alloc (.cells #[.slice (some ⟨S, 0, none⟩) n n] e)).cell? ⟨g, j, none⟩ = some (cr n S j) := by
  subst hg
  intro j hj
  obtain rfl : j = 0 := by omega
  simp [go_sem, cr]
/-- what All answers -/
def AllSays (N : Int) (l : List E) (w : World) (e : Ending) (w' : World) : Prop :=
  (FloydAll.aerr N l ≠ 0 → e = .returned (.tuple #[.slice none 0 0, .int .i64 (FloydAll.aerr N l)])) ∧
  (FloydAll.aerr N l = 0 → ∃ A c, e = .returned (.tuple #[.slice A N.toNat c, .int .i64 0]) ∧ Sr w' w'.heap.size A (rows N.toNat (all N.toNat l))) ∧ Below w.heap.size w w'

set_option maxRecDepth 100000 in
set_option maxHeartbeats 8000000 in
theorem All_any (N : Int) (A : Option Addr) (c : Nat) (l : List E) (w : World) (hl : Sl w w.heap.size 3 ce A l) (hA : A = none → l.length = 0 ∧ c = 0) (hlen : l.length ≤ 9223372036854775807) :
    Calls Try.prog 32 #[.agg #[.int .i64 N, .slice A l.length c]] w fun e w' => AllSays N l w e w' := by
  obtain ⟨i0, hi, hz0, hz1, hz2⟩ := info_parts infoSl
  have hw0 : Below w.heap.size w (w.alloc (.cells #[.int .i64 N, .slice A l.length c] 24)) := (Below.refl _ _).alloc (Nat.le_refl _) _
  have key := lift_any N A c l _ ((hl.keep hw0 (Nat.le_refl _)).more (show w.heap.size ≤ (w.alloc (.cells #[.int .i64 N, .slice A l.length c] 24)).heap.size by simp)) hlen
  have hja := jerr_aerr (l := l) N
  simp only [AllSays, ← hja]
  by_cases hj : jerr N l = 0
  · have hc0 : chk N l = 0 := by
      unfold jerr at hj
      split at hj
      · rename_i h; exact absurd hj h
      · rename_i h; exact Decidable.not_not.1 h
    have hgood := chk_zero.1 hc0
    have hN1 := hgood.lo
    have hN2 := hgood.hi
    obtain ⟨n, rfl⟩ := Int.eq_ofNat_of_zero_le (show 0 ≤ N by omega)
    have hlast : (hs n l).2.2 < 0 := by
      unfold jerr at hj
      rw [if_neg (by simpa using hc0)] at hj
      simp only [Int.toNat_natCast] at hj
      split at hj
      · cases hj
      · omega
    have hneg : FloydAll.neg n (all n l) = false := by
      rw [hja] at hj
      unfold FloydAll.aerr at hj
      rw [if_neg (by simpa using hc0)] at hj
      simp only [Int.toNat_natCast] at hj
      split at hj
      · cases hj
      · rename_i h; exact Bool.eq_false_iff.2 h
    have hht := hs_ht hgood hlast
    have hfl := all_ok hgood (FloydAll.neg_false hneg)
    have k1 := key
    have hfn : (flt (hs n l).1 l).length = l.length := by simp [flt]
    have hwide : Net.Wide n (flt (hs n l).1 l) := ⟨hgood.hi, by rw [hfn]; exact hgood.len, fun e he => (flt_bd hgood hht e he).1, fun e he => (flt_bd hgood hht e he).2⟩
    have hlift : ∀ x ∈ (hs n l).1, -1000000000000 ≤ x ∧ x ≤ 1000000000000 := fun x hx => by
      obtain ⟨i, hi, rfl⟩ := List.mem_iff_getElem.1 hx
      have := hht.bd i (by omega) (by have := hht.len; omega)
      rw [ht, Int.toNat_natCast, List.getD_eq_getElem?_getD, List.getElem?_eq_getElem hi] at this
      simp only [Option.getD_some] at this
      omega
    have kf := fun W S h1 h2 => flat_any n A c l (some ⟨S, 0, none⟩) n (hs n l).1 W h1 hA h2 hgood (by rw [hht.len]) hlift
    rw [hht.len] at kf
    have krun := fun u (hu : u < n) A2 c2 W h1 => run_wide n u A2 c2 (flt (hs n l).1 l) W h1 hwide hu (flt_nn hht)
    rw [hfn] at krun
    have hrow := fun u (hu : u < n) D (hD : Sh n u (flt (hs n l).1 l) D) => jr_all hgood hht hfl hu hD
    have hbd := fun v h0 h1 => hht.bd v h0 h1
    obtain ⟨H, hH⟩ : ∃ H, (hs n l).1 = H := ⟨_, rfl⟩
    obtain ⟨L2, hL2⟩ : ∃ L2, flt (hs n l).1 l = L2 := ⟨_, rfl⟩
    have hHl := hht.len
    rw [hL2] at krun hrow hfn
    rw [hH] at hL2
    rw [hH] at kf hHl hbd hrow
    rw [hL2] at kf
    have kf2 := fun W S h1 h2 => (kf W S h1 h2).mono (R' := fun e w' => ∃ A2 c2, e = .returned (.agg #[.int .i64 n, .slice A2 l.length c2]) ∧ Own w' W.heap.size 60 3 ce (.slice A2 l.length c2) L2 ∧ Below W.heap.size W w') (fun e w' h => by
      obtain ⟨A2, c2, e1, e2, e3⟩ := h
      rw [hfn] at e1 e2
      exact ⟨A2, c2, e1, e2, e3⟩)
    have k1' : ∀ e w', LiftSays n l (w.alloc (.cells #[.int .i64 (n : Int), .slice A l.length c] 24)) e w' → ∃ S, e = .returned (.tuple #[.slice (some ⟨S, 0, none⟩) n n, .int .i64 0]) ∧ Sl w' w'.heap.size 1 ci (some ⟨S, 0, none⟩) H ∧ Below (w.heap.size + 1) (w.alloc (.cells #[.int .i64 (n : Int), .slice A l.length c] 24)) w' := fun e w' h => by
      obtain ⟨S, h1, h2⟩ := h.2.1 hj
      rw [Int.toNat_natCast] at h1 h2
      rw [hH] at h2
      exact ⟨S, h1, h2.sl.2, by simpa using h.2.2⟩
    have K0 := Lib.hid key
    have K1 := Lib.hid k1'
    have KF := Lib.hid kf2
    have KRUN := Lib.hid krun
    have HROW := Lib.hid hrow
    have HBD := Lib.hid hbd
    have HHL := Lib.hid hHl
    have HLN := Lib.hid hl
    have HFN := Lib.hid hfn
    have HJ := Lib.hid hj
    have hlen6 := hgood.len
    clear key k1 k1' kf kf2 krun hrow hbd hH hHl hL2 hfn hlift hwide hfl hht hneg hlast hgood hc0 hl hA hj hja
    go_enter Try.func32, Try.ntmps32
    go_wp2_with fail
    refine K0.out.mono ?_
    intro e w1 hsays
    obtain ⟨Sh', rfl, slh, hb1⟩ := K1.out _ _ hsays
    have H1 := hw0.trans (hb1.mono (Nat.le_succ _))
    have z1 : w.heap.size + 1 ≤ w1.heap.size := by have := hb1.size; simp at this; omega
    have hO := blk_below (heap_alloc_new w (.cells #[.int .i64 n, .slice A l.length c] 24)) hb1 (Nat.lt_succ_self _)
    have q0 := blk_cell hO 0
    have q1 := blk_cell hO 1
    simp only [List.getElem?_toArray, List.getElem?_cons_zero, List.getElem?_cons_succ] at q0 q1
    have SLH := Lib.hid slh
    have HO := Lib.hid hO
    have HH1 := Lib.hid H1
    clear hsays K0 K1 slh hO H1 hb1
    go_wp2_with fail
    refine (KF.out _ _ ((HLN.out.keep HH1.out (Nat.le_refl _)).more (by omega)) SLH.out).mono ?_
    rintro e w2 ⟨A2, c2, rfl, own2, hb2⟩
    have hO2 := blk_below HO.out hb2 (by omega)
    have q0' := blk_cell hO2 0
    have q1' := blk_cell hO2 1
    simp only [List.getElem?_toArray, List.getElem?_cons_zero, List.getElem?_cons_succ] at q0' q1'
    have H2 := HH1.out.trans (hb2.mono (by omega))
    have z2 : w.heap.size + 1 ≤ w2.heap.size := by have := hb2.size; omega
    have slh2 := (SLH.out.keep hb2 (Nat.le_refl _)).more hb2.size
    have SLH2 := Lib.hid slh2
    have OWN2 := Lib.hid own2.sl.2
    have HH2 := Lib.hid H2
    have z2' : w.heap.size < w2.heap.size := by omega
    clear HO HH1 SLH own2 hb2 hO2 q0 q1 slh2 H2 z1
    go_wp2
    obtain ⟨w3, hw3⟩ : ∃ w3 : World, w3 = w2.alloc (.cells #[.int .i64 n, .slice A2 l.length c2] 24) := ⟨_, rfl⟩
    have hb23 : Below w2.heap.size w2 w3 := by rw [hw3]; exact (Below.refl _ _).alloc (Nat.le_refl _) _
    have b6 : w3.heap[w2.heap.size]? = some (.cells #[.int .i64 n, .slice A2 l.length c2] 24 (0, 0)) := by rw [hw3]; exact heap_alloc_new w2 _
    have z3 : w2.heap.size < w3.heap.size := lt_of_block b6
    have net3 := (OWN2.out.keep hb23 (Nat.le_refl _)).more hb23.size
    have H3 := HH2.out.trans (hb23.mono (by omega))
    have hc3 : ∀ j, j < n → Sh' < w3.heap.size ∧ w3.cell? ⟨Sh', j, none⟩ = some (.int .i64 (ht H j)) := fun j hj => by
      have hjl : j < H.length := by rw [HHL.out]; exact hj
      obtain ⟨b, off, he, hb, hc⟩ := ((SLH2.out.keep hb23 (Nat.le_refl _)).more hb23.size).atI hjl
      injection he with he
      injection he with he1 he2
      subst he1 he2
      rw [Nat.zero_add] at hc
      refine ⟨by omega, ?_⟩
      rw [hc, ht, Int.toNat_natCast, List.getD_eq_getElem?_getD, List.getElem?_eq_getElem hjl]
      rfl
    rw [← hw3]
    have B6 := Lib.hid b6
    have NET3 := Lib.hid net3
    have HC3 := Lib.hid hc3
    have HH3 := Lib.hid H3
    clear hw3 hb23 b6 net3 hc3 H3 HH2 OWN2 SLH2 q0' q1' HLN KF
    go_loopw [7, 24] (fun s7 i wr => ∃ (k : Nat) (Aj : Option Addr) (cj : Nat) (G : List Nat), k ≤ n ∧ i = .int .i64 k ∧ s7 = .slice Aj k cj ∧ Hid (Js wr w3.heap.size n k Aj cj G (all n l)) ∧ Below w3.heap.size w3 wr) (fun _ i _ => n - (intOf i).toNat)
    case atStart => exact ⟨0, none, 0, [], Nat.zero_le _, rfl, rfl, Lib.hid (Js.nil _ _ _ _), Below.refl _ _⟩
    case round =>
      obtain ⟨k, Aj, cj, G, hk, rfl, rfl, JS, hB⟩ := hrel
      obtain ⟨wo, rfl⟩ : ∃ wo : World, wo = wr := ⟨_, rfl⟩
      have zr := hB.size
      by_cases hlt : k < n
      · have b6 := blk_below B6.out hB z3
        have p0 := blk_cell b6 0
        have p1 := blk_cell b6 1
        simp only [List.getElem?_toArray, List.getElem?_cons_zero, List.getElem?_cons_succ] at p0 p1
        have kr := KRUN.out k hlt A2 c2 wo ((NET3.out.keep hB (Nat.le_refl _)).more hB.size)
        have KR := Lib.hid kr
        have zz2 : w2.heap.size < wo.heap.size := by omega
        clear kr b6
        go_wp2_with fail
        refine KR.out.mono ?_
        rintro e w5 ⟨S, D, rfl, ownD, hsh, hb5⟩
        have hDl : D.length = n := by have := hsh.len; omega
        have hX := HROW.out k hlt D hsh
        have hXl : (jr H k D).length = n := by rw [jr_len]; exact hDl
        obtain ⟨_, ck⟩ := HC3.out k hlt
        obtain ⟨hsh0, _⟩ := HC3.out k hlt
        have bk := HBD.out k (by omega) (by omega)
        have OWND := Lib.hid ownD
        have HSH := Lib.hid hsh
        have HX := Lib.hid hX
        have HDL := Lib.hid hDl
        have HXL := Lib.hid hXl
        have B5 := hB.trans (hb5.mono zr)
        have z5 := hb5.size
        have own0 : Own w5 wo.heap.size 3 1 ci (.slice (some ⟨S, 0, none⟩) n n) (mx (jr H k D) D 0) := by
          have : mx (jr H k D) D 0 = D := by simp [mx]
          rw [this]; exact ownD
        have OWN0 := Lib.hid own0
        have CK := Lib.hid ck
        clear p0 p1 KR ownD hsh hX hXl hDl own0 ck
        obtain ⟨bk0, bk1⟩ := bk
        have hHk : ∃ x, ht H k = x := ⟨_, rfl⟩
        go_wp2
        go_loopw [32] (fun i wy => ∃ j : Nat, j ≤ n ∧ i = .int .i64 j ∧ Hid (Own wy wo.heap.size 3 1 ci (.slice (some ⟨S, 0, none⟩) n n) (mx (jr H k D) D j)) ∧ Below wo.heap.size wo wy) (fun i _ => n - (intOf i).toNat)
        case atStart => exact ⟨0, Nat.zero_le _, rfl, OWN0, hb5⟩
        case round =>
          obtain ⟨j, hj, rfl, OW, hBy⟩ := hrel
          clear OWN0 hb5
          by_cases hjn : j < n
          · have hml := mx_len HXL.out HDL.out hj
            obtain ⟨pc, pf⟩ := own_at1 hml OW.out hjn
            rw [mx_get HXL.out HDL.out hjn] at pc
            have hS := OW.out.base_ S rfl
            obtain ⟨hS0, hS1⟩ := hS
            have ck := (hBy.cell (p := ⟨Sh', k, none⟩) (by dsimp only; omega)).trans ((hB.cell (p := ⟨Sh', k, none⟩) (by dsimp only; omega)).trans CK.out)
            have cj := (hBy.cell (p := ⟨Sh', j, none⟩) (by dsimp only; omega)).trans ((hB.cell (p := ⟨Sh', j, none⟩) (by dsimp only; omega)).trans (HC3.out j hjn).2)
            have hjr := jr_get H k D (j := j) (by rw [HDL.out]; exact hjn)
            obtain ⟨bj0, bj1⟩ := HBD.out j (by omega) (by omega)
            have hlo := HSH.out.lo j (by omega) (by omega)
            rw [dg, Int.toNat_natCast] at hlo
            obtain ⟨d0, d1⟩ := hlo
            have d2 : D.getD j 0 ≤ 1099511627776 := d1
            have hShS : ¬ Sh' = S := by omega
            have hShw : Sh' < wo.heap.size := by omega
            have hset := fun x hx => mx_set HXL.out HDL.out hjn x hx
            have hsame := fun hx => mx_same HXL.out HDL.out hjn hx
            have HSET := Lib.hid hset
            have HSAME := Lib.hid hsame
            have HML := Lib.hid hml
            have HJR := Lib.hid hjr
            clear hset hsame hml hjr d1
            obtain ⟨x, hx⟩ : ∃ x, D.getD j 0 = x := ⟨_, rfl⟩
            obtain ⟨y, hy⟩ : ∃ y, ht H j = y := ⟨_, rfl⟩
            obtain ⟨z, hz⟩ : ∃ z, ht H k = z := ⟨_, rfl⟩
            rw [hx, hy, hz] at HJR
            rw [hx] at pc d0 d2 HSAME
            rw [hy] at cj bj0 bj1
            rw [hz] at ck bk0 bk1
            have HXYZ := Lib.hid (And.intro hx (And.intro hy hz))
            clear hx hy hz
            by_cases hd : x < 1099511627776
            · have hjx : (jr H k D).getD j 0 = x + (y - z) := by rw [HJR.out]; exact if_pos hd
              have hown := own_set1 HML.out OW.out j (x + (y - z))
              rw [HSET.out _ hjx] at hown
              have HOWN := Lib.hid hown
              have hS2 := hBy.size
              clear hown hjx
              go_wp2
              go_region
              all_goals
                go_wp2
                go_roundw
                case' rel => exact ⟨j + 1, by omega, by go_num, Lib.hid (HOWN.out.drewN 1), ((hBy.setCell (by dsimp only; omega) _).drew)⟩
                case' measure => simp [intOf]; omega
            · have hjx : (jr H k D).getD j 0 = x := by rw [HJR.out]; exact if_neg hd
              have hown := OW.out
              rw [HSAME.out hjx] at hown
              have HOWN := Lib.hid hown
              have hd1 : decide (x < 1099511627776) = false := decide_eq_false hd
              clear hown hjx
              go_wp2
              go_roundw
              case rel => exact ⟨j + 1, by omega, by go_num, HOWN, hBy⟩
              case measure => simp [intOf]; omega
          · obtain rfl : n = j := by omega
            have hmx : mx (jr H k D) D n = (List.range n).map (all n l k) := by
              rw [← HX.out, mx, List.take_of_length_le (by rw [HXL.out]; exact Nat.le_refl _), List.drop_eq_nil_of_le (by rw [HDL.out]; exact Nat.le_refl _), List.append_nil]
            have hown := OW.out
            rw [hmx] at hown
            have hJ := JS.out.keep hBy
            have hJal := hJ.keep (w' := wr.alloc (.cells #[.slice (some ⟨S, 0, none⟩) n n] 25)) ((Below.refl _ _).alloc (Nat.le_refl _) _)
            have hz7 := hBy.size
            have hRow := (hown.mono (show w3.heap.size ≤ wo.heap.size by omega)).alloc (.cells #[.slice (some ⟨S, 0, none⟩) n n] 25)
            have HJ := Lib.hid hJ
            have HJA := Lib.hid hJal
            have HRW := Lib.hid hRow
            have GL := Lib.hid hJ.len
            have n1r := news1r (w := wr) (e := 25) (n := n) (S := S) rfl
            have HN1 := Lib.hid n1r
            clear hmx hown hJ hJal hRow OW n1r hjn
            go_wp2_with (at_builtin; refine wpList_push _ rfl (.tmp 56) (.tmp 58) _ rfl w3.heap.size 25 i0 _ 1 24 (cr n) Try.underlying53 hi hz0 hz1 hz2 rfl (by decide) _ G k GL.out rfl HJA.out.own wr.heap.size 1 S rfl HN1.out (fun _ _ => rfl) (by omega) (by omega) (by simp; omega) ?_; intro A8 c8 w8 hown8 hgrow8 hat8)
            have J8 := HJA.out.push hgrow8 hown8 HRW.out
            have HJ8 := Lib.hid J8
            have hB8 := ((hB.trans (hBy.mono zr)).alloc (by omega) (.cells #[.slice (some ⟨S, 0, none⟩) n n] 25)).grown hgrow8 (by simp; omega) HJA.out.own.lo
            clear J8 hown8 hgrow8 hat8
            go_wp2
            go_roundw
            case rel => exact ⟨k + 1, A8, c8, G ++ [S], by omega, by go_num, rfl, HJ8, hB8⟩
            case measure => simp [intOf]; omega
      · obtain rfl : n = k := by omega
        have hsr := JS.out.sr
        have HSR := Lib.hid hsr
        have HF := HH3.out.trans (hB.mono (by have := HH3.out.size; omega))
        clear hsr JS
        go_wp2
        go_ret2
        exact ⟨fun h => absurd HJ.out h, fun _ => ⟨Aj, cj, rfl, HSR.out⟩, HF⟩
  · have k0 : ∀ W e w', LiftSays N l W e w' → e = .returned (.tuple #[.slice none 0 0, .int .i64 (jerr N l)]) ∧ Below W.heap.size W w' := fun W e w' h => ⟨h.1 hj, h.2.2⟩
    have hne : (jerr N l != 0) = true := by rw [bne_iff_ne]; exact hj
    generalize jerr N l = x at *
    have HJ := Lib.hid hj
    have KEY := Lib.hid key
    have K0 := Lib.hid k0
    clear key hja hl hA k0 hj
    go_enter Try.func32, Try.ntmps32
    go_wp2_with fail
    refine KEY.out.mono ?_
    intro e w1 hsays
    obtain ⟨rfl, h3⟩ := K0.out _ _ _ hsays
    have H1 := hw0.trans (h3.mono (by simp))
    clear hsays h3 KEY K0
    go_wp2
    go_ret2
    exact ⟨fun _ => rfl, fun h => absurd h HJ.out, H1⟩
end Go.Proofs.Ytdpjbjgecmnmnaa.John
