/- The walks of package heap at api.Pop. -/
import Derived.Test.YtjebckehmmbkbaaVNetTurn
import Derived.Test.YtjebckehmmbkbaaVRowSet
import Derived.Test.YtjebckehmmbkbaaVHeapLaw
import Derived.BigRegion
import Derived.BigQuiet
import Derived.Deep.CutRange
import Derived.Deep.RegionHeld3
namespace Go.Proofs.Ytjebckehmmbkbaa.Heap
open Go.RowKit Go.Proofs.Ytjebckehmmbkbaa HeapLaw Go.Proofs.Ytjebckehmmbkbaa.Net
set_option linter.unusedSimpArgs false
set_option linter.unusedVariables false

abbrev Pop := Int × Int
theorem news2' {w : World} {e : TypeId} {x y : Int} {g : Nat} (hg : w.heap.size = g) : ∀ j, j < 2 → (w.alloc (.cells #[.int .i64 x, .int .i64 y] e)).cell? ⟨g, j, none⟩ = some (cp (x, y) j) := by
  subst hg
  exact news2
abbrev d0 : Pop := (0, 0)
theorem infoPop : (Try.prog.info? 77).map (fun i => (i.zero, i.size, i.bytes)) = some (some (.agg #[.int .i64 0, .int .i64 0]), 2, 16) := by kernel_rfl
/-- all blocks as they were, but for H and the row -/
structure Kp (w w' : World) (H : Nat) (row : Option Nat) : Prop where
  os : w'.os = w.os
  tape : w'.tape = w.tape
  output : w'.output = w.output
  size : w.heap.size ≤ w'.heap.size
  block : ∀ g, g < w.heap.size → g ≠ H → some g ≠ row → w'.heap[g]? = w.heap[g]?
section
variable {w w' w'' : World} {H : Nat} {row : Option Nat}
theorem Kp.refl (w : World) (H : Nat) (row : Option Nat) : Kp w w H row := ⟨rfl, rfl, rfl, Nat.le_refl _, fun _ _ _ _ => rfl⟩
theorem Kp.below (h : Kp w w' H row) (hb : Below w'.heap.size w' w'') : Kp w w'' H row :=
  ⟨hb.os.trans h.os, hb.tape.trans h.tape, hb.output.trans h.output, Nat.le_trans h.size hb.size, fun g hg h1 h2 => (hb.block g (Nat.lt_of_lt_of_le hg h.size)).trans (h.block g hg h1 h2)⟩
theorem Kp.alloc (h : Kp w w' H row) (o : Obj) : Kp w (w'.alloc o) H row := h.below ((Below.refl _ _).alloc (Nat.le_refl _) o)
theorem Kp.drew (h : Kp w w' H row) : Kp w w'.drew H row := ⟨h.os, h.tape, h.output, h.size, h.block⟩
theorem Kp.setCell (h : Kp w w' H row) {p : Addr} (hp : p.block = H ∨ row = some p.block ∨ w.heap.size ≤ p.block) (u : Value) : Kp w (w'.setCell p u) H row :=
  ⟨h.os, h.tape, h.output, by have := h.size; simpa [World.setCell] using this, fun g hg h1 h2 => (Below.heap_setCell _ _ _ _ (fun e => by
    rcases hp with hp | hp | hp
    · exact h1 (by rw [e]; exact hp)
    · exact h2 (by rw [e]; exact hp.symm)
    · omega)).trans (h.block g hg h1 h2)⟩
theorem Kp.grown (h : Kp w w' H row) (hg : w'.grownBy w'' row) : Kp w w'' H row :=
  ⟨hg.os.trans h.os, hg.tape.trans h.tape, hg.output.trans h.output, Nat.le_trans h.size hg.size, fun g hlt h1 h2 => (hg.block g (Nat.lt_of_lt_of_le hlt h.size) h2).trans (h.block g hlt h1 h2)⟩
theorem Kp.to {base : Nat} (h : Kp w w' H row) (hb : base ≤ w.heap.size) (hH : base ≤ H) (hr : ∀ S, row = some S → base ≤ S) : Below base w w' :=
  ⟨h.os, h.tape, h.output, h.size, fun g hg => h.block g (by omega) (by omega) (fun e => by have := hr g e.symm; omega)⟩
end
/-- the heap at block H: its order's function, its row -/
structure HeapAt (w : World) (base H : Nat) (fn : Value) (A : Option Addr) (n c : Nat) (L : List Pop) : Prop where
  hb : base ≤ H
  blk : w.heap[H]? = some (.cells #[fn, .slice A n c] 92 (0, 0))
  own : Own w base 77 2 cp (.slice A n c) L
  len : L.length = n
section
variable {w w' : World} {base H : Nat} {fn : Value} {A : Option Addr} {n c : Nat} {L : List Pop}
theorem HeapAt.lt (h : HeapAt w base H fn A n c L) : H < w.heap.size := lt_of_block h.blk
theorem HeapAt.ne (h : HeapAt w base H fn A n c L) : (Value.slice A n c).ownBlock ≠ some H := h.own.ne_ h.blk (by decide)
theorem HeapAt.alloc (h : HeapAt w base H fn A n c L) (o : Obj) : HeapAt (w.alloc o) base H fn A n c L := ⟨h.hb, blk_alloc h.blk o, h.own.alloc o, h.len⟩
theorem HeapAt.drewN (h : HeapAt w base H fn A n c L) (k : Nat) : HeapAt (w.drewN k) base H fn A n c L := ⟨h.hb, h.blk, h.own.drewN k, h.len⟩
theorem HeapAt.keep (h : HeapAt w base H fn A n c L) (hb : Below w.heap.size w w') : HeapAt w' base H fn A n c L := ⟨h.hb, blk_below h.blk hb h.lt, h.own.keep hb, h.len⟩
/-- one element's cells -/
theorem HeapAt.at_ (h : HeapAt w base H fn A n c L) {i : Nat} (hi : i < n) : ∃ S a b, A = some ⟨S, 0, none⟩ ∧ base ≤ S ∧ S < w.heap.size ∧ S ≠ H ∧ L.getD i d0 = (a, b) ∧
    w.cell? ⟨S, i * 2, none⟩ = some (.int .i64 a) ∧ w.cell? ⟨S, i * 2 + 1, none⟩ = some (.int .i64 b) ∧ w.frozen? ⟨S, i * 2, none⟩ = false ∧ w.frozen? ⟨S, i * 2 + 1, none⟩ = false := by
  have hl := h.len
  have hne := h.ne
  have hown := h.own
  obtain ⟨S, c', hv, hb, hS, _, hc⟩ := hown.some_ (by omega)
  injection hv with hv _ _
  subst hv
  have e : L.getD i d0 = L[i]'(by omega) := by rw [List.getD_eq_getElem?_getD, List.getElem?_eq_getElem (by omega)]; rfl
  exact ⟨S, _, _, rfl, hb, hS, fun e => hne (by rw [e]; rfl), e, (hc i (by omega) 0 (by omega)).1, (hc i (by omega) 1 (by omega)).1, (hc i (by omega) 0 (by omega)).2, (hc i (by omega) 1 (by omega)).2⟩
end
/-- one element of an own row set -/
theorem own_set2 {w : World} {base : Nat} {e : TypeId} {S c n : Nat} {l : List Pop} (hn : l.length = n) (h : Own w base e 2 cp (.slice (some ⟨S, 0, none⟩) n c) l) (k : Nat) (hk : k < n) (a b : Int) :
    Own ((w.setCell ⟨S, k * 2, none⟩ (.int .i64 a)).setCell ⟨S, k * 2 + 1, none⟩ (.int .i64 b)) base e 2 cp (.slice (some ⟨S, 0, none⟩) n c) (l.set k (a, b)) := by
  have h1 := own_setj hn h k 0 (a, (l[k]'(by omega)).2) (by omega) (by decide) (fun j hj hne => by
    match j, hj, hne with
    | 0, _, hne => exact absurd rfl hne
    | 1, _, _ => rfl)
  have h2 := own_setj (by simpa using hn) h1 k 1 (a, b) (by simpa using (show k < l.length by omega)) (by decide) (fun j hj hne => by
    rw [List.getElem_set_self]
    match j, hj, hne with
    | 0, _, _ => rfl
    | 1, _, hne => exact absurd rfl hne)
  rw [List.set_set] at h2
  exact h2
theorem HeapAt.swap {w : World} {base H : Nat} {fn : Value} {S n c : Nat} {L : List Pop} (h : HeapAt w base H fn (some ⟨S, 0, none⟩) n c L) {i k : Nat} (hi : i < n) (hk : k < n) {a b x y : Int} (hxi : L.getD i d0 = (x, y)) (hxk : L.getD k d0 = (a, b)) (hS : S ≠ H) :
    HeapAt ((((w.setCell ⟨S, i * 2, none⟩ (.int .i64 a)).setCell ⟨S, i * 2 + 1, none⟩ (.int .i64 b)).setCell ⟨S, k * 2, none⟩ (.int .i64 x)).setCell ⟨S, k * 2 + 1, none⟩ (.int .i64 y)) base H fn (some ⟨S, 0, none⟩) n c (swp d0 L i k) := by
  have hS' : H ≠ S := fun e => hS e.symm
  refine ⟨h.hb, blk_far (blk_far (blk_far (blk_far h.blk hS' _) hS' _) hS' _) hS' _, ?_, by rw [swp_len]; exact h.len⟩
  have h1 := own_set2 h.len h.own i hi a b
  have h2 := own_set2 (by simpa using h.len) h1 k hk x y
  unfold swp
  rw [hxi, hxk]
  exact h2
/-- the order's function -/
def LessOk (k : FuncId) (lt : Pop → Pop → Bool) : Prop := ∀ (W : World) (a b x y : Int), Calls Try.prog k #[.agg #[.int .i64 a, .int .i64 b], .agg #[.int .i64 x, .int .i64 y]] W fun e w' => e = .returned (.bool (lt (a, b) (x, y))) ∧ Below W.heap.size W w'
def fnOf (k : FuncId) : Value := .func (.func k) #[] #[]

set_option maxRecDepth 100000 in
set_option maxHeartbeats 4000000 in
theorem push_any (lt : Pop → Pop → Bool) (o : Ord lt) (hless : LessOk 31 lt) (base H : Nat) (A : Option Addr) (n c : Nat) (L : List Pop) (x y : Int) (w : World) (h : HeapAt w base H (fnOf 31) A n c L) (hp : Hp d0 lt L) (hn : (n + 1) * 16 ≤ 140737488355328) (hb : base ≤ w.heap.size) :
    Calls Try.prog 32 #[.pointer (some ⟨H, 0, none⟩), .agg #[.int .i64 x, .int .i64 y]] w fun e w' => (∃ v, e = .returned v) ∧ ∃ A' c' L', HeapAt w' base H (fnOf 31) A' (n + 1) c' L' ∧ L'.Perm ((x, y) :: L) ∧ Hp d0 lt L' ∧ Kp w w' H (Value.slice A n c).ownBlock ∧ ∀ S, (Value.slice A' (n + 1) c').ownBlock = some S → (Value.slice A n c).ownBlock = some S ∨ w.heap.size ≤ S := by
  obtain ⟨i0, hi, hz0, hz1, hz2⟩ := info_parts infoPop
  have hc0 := blk_cell h.blk 0
  have hc1 := blk_cell h.blk 1
  have hlt := h.lt
  have hne := h.ne
  simp only [List.getElem?_toArray, List.getElem?_cons_zero, List.getElem?_cons_succ] at hc0 hc1
  unfold fnOf at hc0
  have hb0 := blk_alloc (blk_alloc h.blk (.cells #[.int .i64 x, .int .i64 y] 77)) (.cells #[.int .i64 x, .int .i64 y] 77)
  go_enter Try.func32, Try.ntmps32
  go_upto_region 1 with fail
  go_cut [13] from 6 to 15 (fun s13 wx => ∃ A3 c3, HeapAt wx base H (fnOf 31) A3 (n + 1) c3 (L ++ [(x, y)]) ∧ Kp w wx H (Value.slice A n c).ownBlock ∧ ∀ S, (Value.slice A3 (n + 1) c3).ownBlock = some S → (Value.slice A n c).ownBlock = some S ∨ w.heap.size ≤ S)
  case first =>
    go_region_law (refine step_push _ rfl (.tmp 10) (.tmp 12) _ rfl base 77 i0 _ 2 16 cp Try.underlying90 hi hz0 hz1 hz2 rfl (by decide) _ L n h.len rfl ((h.own.alloc _).alloc _) (w.heap.size + 1) 1 (x, y) rfl (news2' (by simp)) (fun _ _ => one_cp _ _) (by omega) (by omega) (by simp; omega) ?_; intro A3 c3 w4 hown3 hgrow3 hat3; have hH4 : w4.heap[H]? = some (.cells #[fnOf 31, .slice A n c] 92 (0, 0)) := (hgrow3.block H (by simp; omega) (fun e => hne e.symm)).trans hb0; have c41 : w4.cell? ⟨H, 1, none⟩ = some (.slice A n c) := blk_cell hH4 1; have f41 : w4.frozen? ⟨H, 1, none⟩ = false := blk_free hH4 1)
    all_goals
      have hB4 : Kp w w4 H (Value.slice A n c).ownBlock := by first | exact (((Kp.refl _ _ _).alloc _).alloc _).drew.grown hgrow3 | exact (((Kp.refl _ _ _).alloc _).alloc _).grown hgrow3
      have hat4 : ∀ S, (Value.slice A3 (n + 1) c3).ownBlock = some S → (Value.slice A n c).ownBlock = some S ∨ w.heap.size ≤ S := fun S hS => by
        rcases hat3 with h1 | h1
        · exact .inl (h1.symm.trans hS)
        · rw [h1] at hS
          injection hS with hS
          simp at hS
          exact .inr (by omega)
      go_wp2_with fail
      go_meet
      exact ⟨A3, c3, ⟨h.hb, blk_set hH4 1 _, hown3.setCell (hown3.ne_ hH4 (by decide)) _, by simp [h.len]⟩, hB4.setCell (.inl rfl) _, hat4⟩
  case rest =>
    obtain ⟨A3, c3, h3, hB3, hat4⟩ := hcut
    have HAT := Lib.hid hat4
    clear hat4
    have e0 := blk_cell h3.blk 1
    simp only [List.getElem?_toArray, List.getElem?_cons_zero, List.getElem?_cons_succ] at e0
    have hup := Hp.snoc hp (x, y)
    rw [h.len] at hup
    have HUP := Lib.hid hup
    have H3 := Lib.hid h3
    have HO := Lib.hid o
    have HL := Lib.hid hless
    clear h hp hup h3 hc0 hc1 hne hb0 o hless
    have hn1 : (n : Int) + 1 - 1 = n := by omega
    go_wp2
    go_loopw [4] (fun s4 wr => ∃ (i : Nat) (L' : List Pop), i < n + 1 ∧ s4 = .int .i64 i ∧ HeapAt wr base H (fnOf 31) A3 (n + 1) c3 L' ∧ L'.Perm ((x, y) :: L) ∧ Up d0 lt L' i ∧ Kp w wr H (Value.slice A n c).ownBlock) (fun s4 _ => (intOf s4).toNat)
    case atStart => exact ⟨n, L ++ [(x, y)], by omega, rfl, H3.out, List.perm_append_comm, HUP.out, hB3⟩
    case round =>
      obtain ⟨i, L', hi1, rfl, hh, hpm, hu, hB⟩ := hrel
      have HPM := Lib.hid hpm
      have HU := Lib.hid hu
      have c0 := blk_cell hh.blk 0
      have c1 := blk_cell hh.blk 1
      simp only [List.getElem?_toArray, List.getElem?_cons_zero, List.getElem?_cons_succ] at c0 c1
      unfold fnOf at c0
      clear hpm hu e0 H3 HUP
      by_cases hi0 : 0 < i
      · obtain ⟨j, rfl⟩ : ∃ j, i = j + 1 := ⟨i - 1, by omega⟩
        have hq : (j : Int).tdiv 2 = ((j / 2 : Nat) : Int) := by rw [Int.ofNat_tdiv]; rfl
        have hj2 : j / 2 < j + 1 := by omega
        obtain ⟨S, a, b, rfl, hS0, hS1, hSH, hgi, ci0, ci1, fi0, fi1⟩ := hh.at_ hi1
        obtain ⟨S', a', b', hSe, _, _, _, hgk, ck0, ck1, fk0, fk1⟩ := hh.at_ (show j / 2 < n + 1 by omega)
        injection hSe with hSe
        injection hSe with hSe _ _
        subst hSe
        have hj0 : (0 : Int) ≤ ((j / 2 : Nat) : Int) := by omega
        generalize hk2 : j / 2 = m at *
        have HK2 := Lib.hid hk2
        have HGI := Lib.hid hgi
        have HGK := Lib.hid hgk
        have HH := Lib.hid hh
        have hl := fun W => HL.out W a b a' b'
        have hHs := hh.lt
        have b1 : (j : Int) + 1 < (n : Int) + 1 := by omega
        have b2 : (0 : Int) ≤ (j : Int) + 1 := by omega
        have b3 : (m : Int) < (n : Int) + 1 := by omega
        have b4 : (j : Int) < n := by omega
        have b5 : j < n := by omega
        have b6 : m < n + 1 := by omega
        have b7 : (m : Int) ≤ n := by omega
        have b8 : ¬ ((m : Int) < 0) := by omega
        have b9 : ¬ ((j : Int) + 1 < 0) := by omega
        clear hk2 hgi hgk
        cases hlt2 : lt (a, b) (a', b') with
        | false =>
          simp only [hlt2] at hl
          have KL := Lib.hid hl
          have HLT := Lib.hid hlt2
          clear hl hlt2
          go_wp2
          go_region_held3 (fun w' => w'.cell? ⟨H, 0, none⟩ = some (.func (.func 31) #[] #[]) ∧ w'.cell? ⟨H, 1, none⟩ = some (.slice (some ⟨S, 0, none⟩) (n + 1) c3) ∧ w'.cell? ⟨S, (j + 1) * 2, none⟩ = some (.int .i64 a) ∧ w'.cell? ⟨S, (j + 1) * 2 + 1, none⟩ = some (.int .i64 b) ∧ w'.cell? ⟨S, m * 2, none⟩ = some (.int .i64 a') ∧ w'.cell? ⟨S, m * 2 + 1, none⟩ = some (.int .i64 b'))
            (first
              | go_keep
              | (go_split_ands
                 refine ⟨?_, ?_, ?_, ?_, ?_, ?_⟩
                 · (rw [cH]; assumption)
                 · (rw [cH]; assumption)
                 · (rw [cS]; assumption)
                 · (rw [cS]; assumption)
                 · (rw [cS]; assumption)
                 · (rw [cS]; assumption)))
            (first
              | (go_at_call 31; refine (KL.out _).mono ?_; rintro e w5 ⟨rfl, hb5⟩; have cH := (keepAt hb5 (b := H) hHs).1; have cS := (keepAt hb5 (b := S) hS1).1))
          all_goals
            clear cH cS
            have hb6 : Below wr.heap.size wr w5 := by first | exact hb5 | exact (Below.refl _ _).drew.trans hb5
            have hfin := HU.out.done (fun _ => by
              have e1 : par (j + 1) = m := by have := HK2.out; unfold par; omega
              rw [e1, HGI.out, HGK.out]; exact HLT.out)
            have hh5 := HH.out.keep hb6
            have hB5 := hB.below hb6
            clear hb5 hb6
            go_wp2
            refine bodyPost_end (v := .tuple #[]) (by simp [results, Try.results32, go_sem]) rfl ?_
            exact ⟨⟨_, rfl⟩, _, c3, L', hh5, HPM.out, hfin, hB5, HAT.out⟩
        | true =>
          simp only [hlt2] at hl
          have KL := Lib.hid hl
          have HLT := Lib.hid hlt2
          clear hl hlt2
          go_wp2
          go_region_held3 (fun w' => w'.cell? ⟨H, 0, none⟩ = some (.func (.func 31) #[] #[]) ∧ w'.cell? ⟨H, 1, none⟩ = some (.slice (some ⟨S, 0, none⟩) (n + 1) c3) ∧ w'.cell? ⟨S, (j + 1) * 2, none⟩ = some (.int .i64 a) ∧ w'.cell? ⟨S, (j + 1) * 2 + 1, none⟩ = some (.int .i64 b) ∧ w'.cell? ⟨S, m * 2, none⟩ = some (.int .i64 a') ∧ w'.cell? ⟨S, m * 2 + 1, none⟩ = some (.int .i64 b'))
            (first
              | go_keep
              | (go_split_ands
                 refine ⟨?_, ?_, ?_, ?_, ?_, ?_⟩
                 · (rw [cH]; assumption)
                 · (rw [cH]; assumption)
                 · (rw [cS]; assumption)
                 · (rw [cS]; assumption)
                 · (rw [cS]; assumption)
                 · (rw [cS]; assumption)))
            (first
              | (go_at_call 31; refine (KL.out _).mono ?_; rintro e w5 ⟨rfl, hb5⟩; have cH := (keepAt hb5 (b := H) hHs).1; have cS := (keepAt hb5 (b := S) hS1).1))
          all_goals
            clear cH cS
            have hb6 : Below wr.heap.size wr w5 := by first | exact hb5 | exact (Below.refl _ _).drew.trans hb5
            have hh5 := HH.out.keep hb6
            have hB5 := hB.below hb6
            obtain ⟨cH, fH⟩ := keepAt hb6 (b := H) hHs
            obtain ⟨cS, fS⟩ := keepAt hb6 (b := S) hS1
            have u0 := (cH 1).trans c1
            have u1 := (cS _).trans ci0
            have u2 := (cS _).trans ci1
            have u3 := (cS _).trans ck0
            have u4 := (cS _).trans ck1
            have u5 := (fS _).trans fi0
            have u6' := (fS _).trans fi1
            have u7' := (fS _).trans fk0
            have u8' := (fS _).trans fk1
            have HH5 := Lib.hid hh5
            have hm2 : ¬ (j + 1) * 2 = m * 2 := by omega
            have hm3 : ¬ (j + 1) * 2 + 1 = m * 2 + 1 := by omega
            have hm4 : ¬ (j + 1) * 2 + 1 = m * 2 := by omega
            have hm5 : ¬ (j + 1) * 2 = m * 2 + 1 := by omega
            clear hb5 hb6 cH fH cS fS c0 c1 ci0 ci1 ck0 ck1 fi0 fi1 fk0 fk1 hh5 hh
            go_wp2
            go_region
            all_goals
              go_wp2
              go_roundw
              case' rel =>
                have e1 : par (j + 1) = m := by have := HK2.out; unfold par; omega
                have hln : L'.length = n + 1 := HH5.out.len
                have hSr := HAT.out S rfl
                have hst := HU.out.step HO.out (Nat.succ_pos j) (by omega) (by rw [e1, HGI.out, HGK.out]; exact HLT.out)
                rw [e1] at hst
                exact ⟨m, swp d0 L' (j + 1) m, by omega, rfl, (HH5.out.swap hi1 b6 HGI.out HGK.out hSH).drewN 1, (swp_perm (by omega) (by omega) (by omega)).trans HPM.out, hst, ((((hB5.setCell (.inr hSr) _).setCell (.inr hSr) _).setCell (.inr hSr) _).setCell (.inr hSr) _).drew⟩
              case' measure => simp [intOf]; omega
      · obtain rfl : i = 0 := by omega
        have hfin := HU.out.done (fun h => absurd h (Nat.lt_irrefl 0))
        have HH := Lib.hid hh
        have HFIN := Lib.hid hfin
        clear hh hfin
        go_wp2
        refine bodyPost_end (v := .tuple #[]) (by simp [results, Try.results32, go_sem]) rfl ?_
        exact ⟨⟨_, rfl⟩, A3, c3, L', HH.out, HPM.out, HFIN.out, hB, HAT.out⟩
end Go.Proofs.Ytjebckehmmbkbaa.Heap
