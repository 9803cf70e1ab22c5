/- The walk of ara.New. -/
/- The walk of (*ara.Search).Rounds. -/
/- The walks of ara.New where it makes no search, and of ara.Run. -/
import Derived.Test.YtpoolpaagbeokaaVAraStep
import Derived.Test.YtpoolpaagbeokaaVAraWeights
import Derived.Test.YtpoolpaagbeokaaVStarFn
import Derived.Test.YtpoolpaagbeokaaVJohnWalks
import Derived.Test.YtpoolpaagbeokaaVMakers
namespace Go.Proofs.Ytpoolpaagbeokaa.Ara
open Go.RowKit Go.Proofs.Ytpoolpaagbeokaa NetLaw BellLaw StarLaw AraLaw Go.Proofs.Ytpoolpaagbeokaa.Net Go.Proofs.Ytpoolpaagbeokaa.Std Go.Proofs.Ytpoolpaagbeokaa.Flow
open Go.Proofs.Ytpoolpaagbeokaa.Heap (Kp Kp.refl Kp.below Kp.alloc Kp.drew Kp.setCell Kp.grown Kp.to fnOf)
open Go.Proofs.Ytpoolpaagbeokaa.HeapP (HeapAt d0 ltP ltP_ord)
open Go.Proofs.Ytpoolpaagbeokaa.Makers (wpAnyH_makers putsF mnum mdst lists)
open Go.Proofs.Ytpoolpaagbeokaa.StarF (slook slook_any slook_zero)
open Go.Proofs.Ytpoolpaagbeokaa.Dijk (Tab_mono)
set_option linter.unusedSimpArgs false
set_option linter.unusedVariables false
theorem infoEdgeN : (Try.prog.info? 110).map (fun i => (i.zero, i.size, i.bytes)) = some (some (.agg #[.int .i64 0, .int .i64 0, .int .i64 0]), 3, 24) := by kernel_rfl
theorem infoRatioN : (Try.prog.info? 39).map (fun i => (i.zero, i.size, i.bytes)) = some (some (.agg #[.int .i64 0, .int .i64 0]), 2, 16) := by kernel_rfl
/-- what each maker leaves -/
def MkA (n : Nat) (l : List E) (hs : List Int) (ws : List (Int × Int)) (i : Nat) (v : Value) (lo hi : Nat) (w' : World) : Prop :=
  if i = 1 then ∃ A c, v = .agg #[.int .i64 n, .slice A l.length c] ∧ Own w' lo 110 3 ce (.slice A l.length c) l ∧ ∀ g, ob A = some g → g < hi
  else if i = 4 then ∃ A c, v = .slice A n c ∧ Own w' lo 3 1 ci (.slice A n c) hs ∧ ∀ g, ob A = some g → g < hi
  else if i = 6 then ∃ A c, v = .slice A ws.length c ∧ Own w' lo 39 2 cp (.slice A ws.length c) ws ∧ ∀ g, ob A = some g → g < hi
  else if i = 15 then ∃ g, v = .slice (some ⟨g, 0, none⟩) n n ∧ g < hi ∧ Own w' lo 4 1 cb (.slice (some ⟨g, 0, none⟩) n n) (List.replicate n false)
  else if i = 16 then ∃ H, v = .pointer (some ⟨H, 0, none⟩) ∧ H < hi ∧ HeapAt w' lo H (fnOf 40) none 0 0 []
  else ∃ g, v = .slice (some ⟨g, 0, none⟩) n n ∧ g < hi ∧ Own w' lo 3 1 ci (.slice (some ⟨g, 0, none⟩) n n) (List.replicate n 0)
theorem MkA.keep {w1 w2 : World} {n : Nat} {l : List E} {hs : List Int} {ws : List (Int × Int)} {i : Nat} {v : Value} {lo hi : Nat} (h : MkA n l hs ws i v lo hi w1) (hb : Below w1.heap.size w1 w2) : MkA n l hs ws i v lo hi w2 := by
  unfold MkA at *
  by_cases h1 : i = 1
  · rw [if_pos h1] at h ⊢
    obtain ⟨A, c, a1, a2, a3⟩ := h
    exact ⟨A, c, a1, a2.keep hb, a3⟩
  · rw [if_neg h1] at h ⊢
    by_cases h4 : i = 4
    · rw [if_pos h4] at h ⊢
      obtain ⟨A, c, a1, a2, a3⟩ := h
      exact ⟨A, c, a1, a2.keep hb, a3⟩
    · rw [if_neg h4] at h ⊢
      by_cases h6 : i = 6
      · rw [if_pos h6] at h ⊢
        obtain ⟨A, c, a1, a2, a3⟩ := h
        exact ⟨A, c, a1, a2.keep hb, a3⟩
      · rw [if_neg h6] at h ⊢
        by_cases h15 : i = 15
        · rw [if_pos h15] at h ⊢
          obtain ⟨g, a1, a2, a3⟩ := h
          exact ⟨g, a1, a2, a3.keep hb⟩
        · rw [if_neg h15] at h ⊢
          by_cases h16 : i = 16
          · rw [if_pos h16] at h ⊢
            obtain ⟨g, a1, a2, a3⟩ := h
            exact ⟨g, a1, a2, a3.keep hb⟩
          · rw [if_neg h16] at h ⊢
            obtain ⟨g, a1, a2, a3⟩ := h
            exact ⟨g, a1, a2, a3.keep hb⟩
theorem heapA_mono {w : World} {base base' H n c : Nat} {fn : Value} {A : Option Addr} {L : List HeapP.Pop} (h : HeapAt w base H fn A n c L) (hb : base' ≤ base) : HeapAt w base' H fn A n c L := ⟨Nat.le_trans hb h.hb, h.blk, h.own.mono hb, h.len⟩
/-- what was made, ahead of the edges' lists -/
structure Md (b : Nat) (w : World) (Z n t : Nat) (l : List E) (hs : List Int) (ws : List (Int × Int)) (AE : Option Addr) (cE : Nat) (AH : Option Addr) (cH : Nat) (AW : Option Addr) (cW SC SP SD H : Nat) : Prop where
  z : w.heap[Z]? = some (.cells #[.int .i64 n, .slice AE l.length cE, .slice none 0 0, .int .i64 t, .slice AH n cH, .slice AW ws.length cW, .slice (some ⟨SC, 0, none⟩) n n, .slice (some ⟨SP, 0, none⟩) n n, .slice (some ⟨SD, 0, none⟩) n n, .slice none 0 0, .pointer (some ⟨H, 0, none⟩), .int .i64 0, .slice none 0 0] 105 (0, 0))
  zl : b ≤ Z
  net : Own w b 110 3 ce (.slice AE l.length cE) l
  hh : Own w b 3 1 ci (.slice AH n cH) hs
  wt : Own w b 39 2 cp (.slice AW ws.length cW) ws
  cost : Own w b 3 1 ci (.slice (some ⟨SC, 0, none⟩) n n) (List.replicate n 0)
  pred : Own w b 3 1 ci (.slice (some ⟨SP, 0, none⟩) n n) (List.replicate n 0)
  done : Own w b 4 1 cb (.slice (some ⟨SD, 0, none⟩) n n) (List.replicate n false)
  heap : HeapAt w b H (fnOf 40) none 0 0 []
  neCP : SC ≠ SP
  neH : ob AH ≠ some SC ∧ ob AH ≠ some SP
/-- the state while costs and ways back are filled -/
def sFill (n k : Nat) : AS := ⟨List.replicate k far ++ List.replicate (n - k) 0, List.replicate k (-1) ++ List.replicate (n - k) 0, List.replicate n false, fun _ => false, fun _ => false, 0, []⟩
def s0A (n : Nat) : AS := ⟨List.replicate n far, List.replicate n (-1), List.replicate n false, fun _ => false, fun _ => false, 0, []⟩
def Y0 : Var := ⟨none, 0, 0, [], none, 0, 0, [], none, 0, 0, []⟩
/-- the edges' lists are there: a search -/
theorem Md.search {b : Nat} {w w' : World} {Z n t : Nat} {l : List E} {hs : List Int} {ws : List (Int × Int)} {AE : Option Addr} {cE : Nat} {AH : Option Addr} {cH : Nat} {AW : Option Addr} {cW SC SP SD H TO : Nat} {FO : Nat → Option Addr × Nat} (h : Md b w Z n t l hs ws AE cE AH cH AW cW SC SP SD H) (hhl : hs.length = n) (hb : Below w.heap.size w w') (ht : Tab w' w.heap.size TO n FO (ol l l.length)) :
    ∃ F : Fix, F.n = n ∧ F.tt = t ∧ F.l = l ∧ F.h = hs ∧ F.ws = ws ∧ AM b (w'.setCell ⟨Z, 2, none⟩ (.slice (some ⟨TO, 0, none⟩) n n)) Z F Y0 (sFill n 0) ∧ b ≤ F.SC ∧ b ≤ F.SP := by
  have hZ := lt_of_block h.z
  have hz := blk_below h.z hb hZ
  have hbs : b ≤ w.heap.size := by have := h.zl; omega
  obtain ⟨cs, hti, _⟩ := ht.blk
  have hFl : ∀ v, v < n → ∀ g, ob (FO v).1 = some g → w.heap.size ≤ g := fun v hv g e => ((ht.own v hv).base_ g ((ob_ ..).trans e)).1
  have hz2 := blk_set hz 2 (.slice (some ⟨TO, 0, none⟩) n n)
  refine ⟨⟨n, t, l, hs, ws, AE, cE, TO, FO, AH, cH, AW, cW, SC, SP, SD, H⟩, rfl, rfl, rfl, rfl, rfl, ⟨by simpa [Y0, sFill] using hz2, h.zl, (h.net.keep hb).setCell ((h.net.keep hb).ne_ hz (by decide)) _,
    tab_far (p := ⟨Z, 2, none⟩) (Tab_mono ht hbs) (blk_ne hz hti (by decide)) (fun v hv e => by have := hFl v hv Z ((ob_ ..).symm.trans e); omega) _, (h.hh.keep hb).setCell ((h.hh.keep hb).ne_ hz (by decide)) _, (h.wt.keep hb).setCell ((h.wt.keep hb).ne_ hz (by decide)) _, ?_, ?_, (h.done.keep hb).setCell ((h.done.keep hb).ne_ hz (by decide)) _, Own.nil_,
    heap_far (h.heap.keep hb) hz (by decide) (by decide) _, HeapLaw.Hp.nil, Own.nil_, fun x hx => (by cases hx), rfl, ?_, ?_, ?_, hhl, rfl, rfl, h.neCP, h.neH, fun v hv => ⟨fun e => ?_, fun e => ?_⟩, (fun g e => by cases e), fun x hx => (by cases hx)⟩, (h.cost.base_ SC rfl).1, (h.pred.base_ SP rfl).1⟩
  · have := (h.cost.keep hb).setCell (p := ⟨Z, 2, none⟩) ((h.cost.keep hb).ne_ hz (by decide)) (.slice (some ⟨TO, 0, none⟩) n n)
    simpa [sFill] using this
  · have := (h.pred.keep hb).setCell (p := ⟨Z, 2, none⟩) ((h.pred.keep hb).ne_ hz (by decide)) (.slice (some ⟨TO, 0, none⟩) n n)
    simpa [sFill] using this
  · simp [sFill]
  · simp [sFill]
  · simp [sFill]
  · have h1 : w.heap.size ≤ SC := hFl v hv _ e
    exact absurd (h.cost.base_ SC rfl).2 (by omega)
  · have h1 : w.heap.size ≤ SP := hFl v hv _ e
    exact absurd (h.pred.base_ SP rfl).2 (by omega)
theorem am_fill {b : Nat} {w : World} {P : Nat} {F : Fix} {k : Nat} (hk : k < F.n) (h : AM b w P F Y0 { sFill F.n k with C := (sFill F.n k).C.set k far, P := (sFill F.n k).P.set k (-1) }) : AM b w P F Y0 (sFill F.n (k + 1)) :=
  h.congr (Bell.fill_step F.n k far 0 hk).symm (Bell.fill_step F.n k (-1) 0 hk).symm rfl rfl rfl
theorem am_full {b : Nat} {w : World} {P : Nat} {F : Fix} (h : AM b w P F Y0 (sFill F.n F.n)) : SM b w P F Y0 (s0A F.n) 0 := by
  refine ⟨h.congr (by simp [sFill, s0A]) (by simp [sFill, s0A]) rfl rfl rfl, fun _ => ⟨fun v hv => absurd hv.2 (by simp [s0A]), fun x hx => (by cases hx), fun v hv => absurd hv.2 (by simp [s0A]), fun v _ _ => ⟨fun h => (nomatch h), fun h => (nomatch h)⟩, fun v hv => (by cases hv), Nat.le_refl _, Nat.le_refl _⟩, fun v v0 v1 => ?_⟩
  show 0 ≤ dg (List.replicate F.n far) v ∧ dg (List.replicate F.n far) v ≤ far
  rw [rep_dg v0 v1]
  exact ⟨by decide, Int.le_refl _⟩
/-- what New answers where it makes a search -/
def NewYes (n f t : Nat) (l : List E) (hs : List Int) (ws : List (Int × Int)) (w : World) (e : Ending) (w' : World) : Prop :=
  ∃ Z F Y s, e = .returned (.tuple #[.pointer (some ⟨Z, 0, none⟩), .int .i64 0]) ∧ F.n = n ∧ F.tt = t ∧ F.l = l ∧ F.h = hs ∧ F.ws = ws ∧ FO F ∧ PO F f ∧ SR w.heap.size w' Z F Y f 0 s ∧ Below w.heap.size w w'
theorem sl_form {w : World} {A : Option Addr} {α : Type} {l : List α} {sz : Nat} {cell : α → Nat → Value} {B : Nat} (h : Sl w B sz cell A l) : A = none → l.length = 0 := fun e => by
  rcases Nat.eq_zero_or_pos l.length with h0 | h0
  · exact h0
  · obtain ⟨b, off, hA, _⟩ := h h0
    rw [e] at hA
    cases hA
set_option maxRecDepth 100000 in
set_option maxHeartbeats 16000000 in
theorem new_yes (n f t : Nat) (A : Option Addr) (c : Nat) (l : List E) (Ah : Option Addr) (ch : Nat) (hs : List Int) (Aw : Option Addr) (cw : Nat) (ws : List (Int × Int)) (w : World) (hl : Sl w w.heap.size 3 ce A l) (hA : A = none → l.length = 0 ∧ c = 0) (hh : Sl w w.heap.size 1 ci Ah hs) (hAh : Ah = none → hs.length = 0 ∧ ch = 0) (hw : Sl w w.heap.size 2 cp Aw ws) (hAw : Aw = none → ws.length = 0 ∧ cw = 0) (hx : slook n f t l hs = 0) (hy : wcode ws = 0) :
    Calls Try.prog 17 #[.agg #[.int .i64 n, .slice A l.length c], .int .i64 f, .int .i64 t, .slice Ah hs.length ch, .slice Aw ws.length cw] w fun e w' => NewYes n f t l hs ws w e w' := by
  obtain ⟨i0, hi, hz0, hz1, hz2⟩ := info_parts infoIntO
  obtain ⟨i1, hi1, hy0, hy1, hy2⟩ := info_parts infoRatioN
  obtain ⟨hlk, hC⟩ := slook_zero.1 hx
  obtain ⟨hg, hc, ⟨f0, f1⟩, t0, t1⟩ := DijkWay.looks_zero hlk
  obtain ⟨⟨hw1, hw8⟩, hwo⟩ := wcode_ok hy
  have hn1 := hg.lo
  have hn64 := hg.hi
  have hl6 := hg.len
  have hhl : hs.length = n := by have := hC.len; omega
  have hfn : f < n := by omega
  have htn : t < n := by omega
  have hw0 : Below w.heap.size w (w.alloc (.cells #[.int .i64 n, .slice A l.length c] 52)) := (Below.refl _ _).alloc (Nat.le_refl _) _
  have hbox := heap_alloc_new w (.cells #[.int .i64 n, .slice A l.length c] 52)
  have klook := fun W (hb : Below w.heap.size w W) => slook_any n f t A c l Ah ch hs W ((hl.keep hb (Nat.le_refl _)).more hb.size) ((hh.keep hb (Nat.le_refl _)).more hb.size) (by omega) (by omega)
  have kwts := fun W (hb : Below w.heap.size w W) => weights_any Aw cw ws W ((hw.keep hb (Nat.le_refl _)).more hb.size) (by omega)
  have kcopy := fun W (hb : Below w.heap.size w W) => John.copy_any n A c l W ((hl.keep hb (Nat.le_refl _)).more hb.size) hA hl6
  rw [hx] at klook
  rw [hy] at kwts
  rw [hhl] at klook hAh ⊢
  have hmk : ∀ w, (Instr.makeSlice 22 (.int .i64 (n : Int)) (.int .i64 (n : Int))).run Try.prog w = .ok (.slice (some ⟨w.heap.size, 0, none⟩) n n) (w.alloc (.cells (madeCells #[.int .i64 0] n) 3)) :=
    run_make_row' (P := Try.prog) 22 3 (.int .i64 0) 8 Try.underlying22 (by kernel_rfl) rfl .i64 .i64 n (by omega) (by omega)
  have hmb : ∀ w, (Instr.makeSlice 97 (.int .i64 (n : Int)) (.int .i64 (n : Int))).run Try.prog w = .ok (.slice (some ⟨w.heap.size, 0, none⟩) n n) (w.alloc (.cells (madeCells #[.bool false] n) 4)) :=
    run_make_row' (P := Try.prog) 97 4 (.bool false) 1 Try.underlying97 (by kernel_rfl) rfl .i64 .i64 n (by omega) (by omega)
  have knew := fun W => HeapP.new_any 40 W
  unfold fnOf at knew
  have kouts := fun (W : World) (A' : Option Addr) (c' : Nat) (h : Sl W W.heap.size 3 ce A' l) => outs_wide n A' c' l W h (Wide.of hg)
  have hfacts : ∀ F : Fix, F.n = n → F.tt = t → F.l = l → F.h = hs → F.ws = ws → FO F ∧ PO F f := fun F e1 e2 e3 e4 e5 => by
    refine ⟨⟨by rw [e1, e3]; exact hg, by rw [e3]; exact hc, fun v v0 v1 => ?_, by rw [e5]; exact hw8, fun u hu => ?_, by rw [e1, e2]; exact htn⟩, by rw [e1, e2, e3, e4]; exact hC, by rw [e1]; exact hfn, fun u hu => ?_⟩
    · rw [e4]
      obtain ⟨v, rfl⟩ := Int.eq_ofNat_of_zero_le v0
      have hv : v < hs.length := by omega
      rw [dg, Int.toNat_natCast, List.getD_eq_getElem?_getD, List.getElem?_eq_getElem hv]
      exact hC.lo _ (List.getElem_mem hv)
    · rw [e5] at hu
      obtain ⟨k1, k2, k3⟩ := hwo u hu
      exact ⟨k1, k2⟩
    · rw [e5] at hu
      obtain ⟨k1, k2, k3⟩ := hwo u hu
      exact ⟨k1.1, k3⟩
  have KLOOK := Lib.hid klook
  have KWTS := Lib.hid kwts
  have KCOPY := Lib.hid kcopy
  have KNEW := Lib.hid knew
  have KOUTS := Lib.hid kouts
  have HMK := Lib.hid hmk
  have HMB := Lib.hid hmb
  have HBOX := Lib.hid hbox
  have HW0 := Lib.hid hw0
  have HFACTS := Lib.hid hfacts
  have HH := Lib.hid hh
  have HW := Lib.hid hw
  have HAH := Lib.hid hAh
  have HAW := Lib.hid hAw
  have HHL := Lib.hid hhl
  have HW8 := Lib.hid hw8
  have HW1 := Lib.hid hw1
  have HFN := Lib.hid hfn
  have HN64 := Lib.hid hn64
  have hq := blk_cell hbox 0
  have hq1 := blk_cell hbox 1
  have zx := lt_of_block hbox
  simp only [List.getElem?_toArray, List.getElem?_cons_zero, List.getElem?_cons_succ] at hq hq1
  have HQ := Lib.hid (And.intro hq (And.intro hq1 zx))
  clear klook kwts kcopy knew kouts hmk hmb hbox hw0 hfacts hh hw hAh hAw hhl hw8 hl hA hx hy hlk hC hg hc f0 f1 t0 t1 hw1 hwo hn1 hn64 hl6 hq hq1 zx
  go_enter Try.func17, Try.ntmps17
  obtain ⟨x0, x1, zx⟩ := HQ.out
  go_wp2_with fail
  refine (KLOOK.out _ HW0.out).mono ?_
  rintro e w1 ⟨rfl, hb1⟩
  have hb2 := HW0.out.trans (hb1.mono HW0.out.size)
  have hx1 := blk_below HBOX.out hb1 (lt_of_block HBOX.out)
  have HB2 := Lib.hid hb2
  have HX1 := Lib.hid hx1
  clear hb1 hb2 hx1 KLOOK HW0 HBOX HQ x0 x1 zx
  go_wp2_with fail
  refine (KWTS.out _ HB2.out).mono ?_
  rintro e w2 ⟨rfl, hb3⟩
  have HB3 := Lib.hid (HB2.out.trans (hb3.mono HB2.out.size))
  have HX2 := Lib.hid (blk_below HX1.out hb3 (lt_of_block HX1.out))
  clear hb3 HB2 HX1 KWTS
  go_upto_region 7 with fail
  go_cut [14] from 29 to 48 (fun s14 wx => ∃ Z AE cE AH cH AW cW SC SP SD H, s14 = .pointer (some ⟨Z, 0, none⟩) ∧ Hid (Md w.heap.size wx Z n t l hs ws AE cE AH cH AW cW SC SP SD H) ∧ Hid (Below w.heap.size w wx))
  case first =>
    refine Go.wp_region_held_drew (S := fun w' => w'.cell? ⟨w.heap.size, 0, none⟩ = some (.int .i64 n) ∧ w'.cell? ⟨w.heap.size, 1, none⟩ = some (.slice A l.length c)) (by kernel_rfl) ?_ (fun hHeld => ?_)
    · exact ⟨blk_cell HX2.out 0, blk_cell HX2.out 1⟩
    · skip
      refine Go.wpAnyH_take (fuel := 19) (i := 0) (oi := _) (v := ?_) rfl (by kernel_rfl) (by kernel_rfl) (by kernel_rfl) (fun _ _ _ h => h) (Or.inl ⟨by rfl, ?_⟩) (by assumption) ?_
      rotate_left
      · (intro w hSw; (try dsimp only at hSw); go_simp)
        try with_reducible rfl
      try simp only [Act.put, List.getElem_toArray, List.getElem_cons_succ, List.getElem_cons_zero, List.setIfInBounds_toArray, List.set_cons_zero, List.set_cons_succ]
      refine Go.wpAnyH_take (fuel := 18) (i := 2) (oi := _) (v := ?_) rfl (by kernel_rfl) (by kernel_rfl) (by kernel_rfl) (fun _ _ _ h => h) (Or.inl ⟨by rfl, ?_⟩) (by assumption) ?_
      rotate_left
      · (intro w hSw; (try dsimp only at hSw); go_simp)
        try with_reducible rfl
      try simp only [Act.put, List.getElem_toArray, List.getElem_cons_succ, List.getElem_cons_zero, List.setIfInBounds_toArray, List.set_cons_zero, List.set_cons_succ]
      refine Go.wpAnyH_take (fuel := 17) (i := 3) (oi := _) (v := ?_) rfl (by kernel_rfl) (by kernel_rfl) (by kernel_rfl) (fun _ _ _ h => h) (Or.inl ⟨by rfl, ?_⟩) (by assumption) ?_
      rotate_left
      · (intro w hSw; (try dsimp only at hSw); go_simp)
        try with_reducible rfl
      try simp only [Act.put, List.getElem_toArray, List.getElem_cons_succ, List.getElem_cons_zero, List.setIfInBounds_toArray, List.set_cons_zero, List.set_cons_succ]
      refine Go.wpAnyH_take (fuel := 16) (i := 5) (oi := _) (v := ?_) rfl (by kernel_rfl) (by kernel_rfl) (by kernel_rfl) (fun _ _ _ h => h) (Or.inl ⟨by rfl, ?_⟩) (by assumption) ?_
      rotate_left
      · (intro w hSw; (try dsimp only at hSw); go_simp)
        try with_reducible rfl
      try simp only [Act.put, List.getElem_toArray, List.getElem_cons_succ, List.getElem_cons_zero, List.setIfInBounds_toArray, List.set_cons_zero, List.set_cons_succ]
      refine Go.wpAnyH_take (fuel := 15) (i := 7) (oi := _) (v := ?_) rfl (by kernel_rfl) (by kernel_rfl) (by kernel_rfl) (fun _ _ _ h => h) (Or.inl ⟨by rfl, ?_⟩) (by assumption) ?_
      rotate_left
      · (intro w hSw; (try dsimp only at hSw); go_simp)
        try with_reducible rfl
      try simp only [Act.put, List.getElem_toArray, List.getElem_cons_succ, List.getElem_cons_zero, List.setIfInBounds_toArray, List.set_cons_zero, List.set_cons_succ]
      refine Go.wpAnyH_take (fuel := 14) (i := 8) (oi := _) (v := ?_) rfl (by kernel_rfl) (by kernel_rfl) (by kernel_rfl) (fun _ _ _ h => h) (Or.inl ⟨by rfl, ?_⟩) (by assumption) ?_
      rotate_left
      · (intro w hSw; (try dsimp only at hSw); go_simp)
        try with_reducible rfl
      try simp only [Act.put, List.getElem_toArray, List.getElem_cons_succ, List.getElem_cons_zero, List.setIfInBounds_toArray, List.set_cons_zero, List.set_cons_succ]
      refine Go.wpAnyH_take (fuel := 13) (i := 10) (oi := _) (v := ?_) rfl (by kernel_rfl) (by kernel_rfl) (by kernel_rfl) (fun _ _ _ h => h) (Or.inl ⟨by rfl, ?_⟩) (by assumption) ?_
      rotate_left
      · (intro w hSw; (try dsimp only at hSw); go_simp)
        try with_reducible rfl
      try simp only [Act.put, List.getElem_toArray, List.getElem_cons_succ, List.getElem_cons_zero, List.setIfInBounds_toArray, List.set_cons_zero, List.set_cons_succ]
      refine Go.wpAnyH_take (fuel := 12) (i := 11) (oi := _) (v := ?_) rfl (by kernel_rfl) (by kernel_rfl) (by kernel_rfl) (fun _ _ _ h => h) (Or.inl ⟨by rfl, ?_⟩) (by assumption) ?_
      rotate_left
      · (intro w hSw; (try dsimp only at hSw); go_simp)
        try with_reducible rfl
      try simp only [Act.put, List.getElem_toArray, List.getElem_cons_succ, List.getElem_cons_zero, List.setIfInBounds_toArray, List.set_cons_zero, List.set_cons_succ]
      refine Go.wpAnyH_take (fuel := 11) (i := 13) (oi := _) (v := ?_) rfl (by kernel_rfl) (by kernel_rfl) (by kernel_rfl) (fun _ _ _ h => h) (Or.inl ⟨by rfl, ?_⟩) (by assumption) ?_
      rotate_left
      · (intro w hSw; (try dsimp only at hSw); go_simp)
        try with_reducible rfl
      try simp only [Act.put, List.getElem_toArray, List.getElem_cons_succ, List.getElem_cons_zero, List.setIfInBounds_toArray, List.set_cons_zero, List.set_cons_succ]
      refine Go.wpAnyH_take (fuel := 10) (i := 14) (oi := _) (v := ?_) rfl (by kernel_rfl) (by kernel_rfl) (by kernel_rfl) (fun _ _ _ h => h) (Or.inl ⟨by rfl, ?_⟩) (by assumption) ?_
      rotate_left
      · (intro w hSw; (try dsimp only at hSw); go_simp)
        try with_reducible rfl
      try simp only [Act.put, List.getElem_toArray, List.getElem_cons_succ, List.getElem_cons_zero, List.setIfInBounds_toArray, List.set_cons_zero, List.set_cons_succ]
      refine wpAnyH_makers (fuel := 3) (ms := [(1, 30), (4, 33), (6, 35), (9, 38), (12, 41), (15, 44), (16, 45)]) (φ := MkA n l hs ws) (by kernel_rfl) (by kernel_rfl) (by decide) (by decide) hHeld ?_ ?_ ?_
      · exact fun p _ v a b w1 w2 h hb => h.keep hb
      · intro p hp o ho f w1 hS hB K hK
        have B01 := HB3.out.drew.trans (hB.mono HB3.out.size)
        have hz0' : w.heap.size < w1.heap.size := by have h1 := hB.size; have h2 := lt_of_block HX2.out; simp at h1; omega
        have hs2 : ∀ w2, Below w1.heap.size w1 w2 → w2.cell? ⟨w.heap.size, 0, none⟩ = some (.int .i64 n) ∧ w2.cell? ⟨w.heap.size, 1, none⟩ = some (.slice A l.length c) := fun w2 hb => ⟨(hb.cell (p := ⟨w.heap.size, 0, none⟩) hz0').trans hS.1, (hb.cell (p := ⟨w.heap.size, 1, none⟩) hz0').trans hS.2⟩
        have hmk := HMK.out
        have hmb := HMB.out
        have HS2 := Lib.hid hs2
        have HB01 := Lib.hid B01
        clear hS hB hs2 B01 hHeld
        simp only [List.mem_cons, List.not_mem_nil, or_false] at hp
        rcases hp with rfl | rfl | rfl | rfl | rfl | rfl | rfl
        all_goals
          simp only [List.getElem?_toArray, List.getElem?_cons_succ, List.getElem?_cons_zero, Option.some.injEq] at ho
          subst ho
          simp only [putsF, mdst, List.map_cons, List.map_nil, List.foldl_cons, List.foldl_nil, Act.put, List.setIfInBounds_toArray, List.set_cons_zero, List.set_cons_succ] at hK ⊢
          have HKX := Lib.hid hK
          clear hK
        · go_simp
          refine (KCOPY.out _ HB01.out).mono ?_
          rintro e w2 ⟨A2, c2, rfl, own2, hb2⟩
          exact HKX.out _ _ (by unfold MkA; rw [if_pos rfl]; exact ⟨A2, c2, rfl, own2, fun g e => (own2.base_ g ((ob_ ..).trans e)).2⟩) (HS2.out _ hb2) hb2
        · refine wp_pushAll _ (.const (.slice none 0 0)) (.tmp 32) _ rfl w1.heap.size 3 i0 (.int .i64 0) 1 8 ci Try.underlying22 hi hz0 hz1 hz2 rfl (by decide) _ [] 0 rfl rfl Own.nil_ w.heap.size Ah n ch hs HHL.out rfl HAH.out (HH.out.keep HB01.out (Nat.le_refl _)) one_ci (by have := HN64.out; omega) (by have := HN64.out; omega) (Nat.le_refl _) ?_
          intro A2 c2 w2 own2 hgrow hat
          simp only [Nat.zero_add, List.nil_append] at own2
          have hb2 : Below w1.heap.size w1 w2 := (Below.refl _ _).grown hgrow (Nat.le_refl _) (fun k hk => by cases hk)
          simp only [Nat.zero_add]
          exact HKX.out _ _ (by unfold MkA; rw [if_neg (by decide), if_pos rfl]; exact ⟨A2, c2, rfl, own2, fun g e => (own2.base_ g ((ob_ ..).trans e)).2⟩) (HS2.out _ hb2) hb2
        · refine wp_pushAll _ (.const (.slice none 0 0)) (.tmp 34) _ rfl w1.heap.size 39 i1 _ 2 16 cp Try.underlying26 hi1 hy0 hy1 hy2 rfl (by decide) _ [] 0 rfl rfl Own.nil_ w.heap.size Aw ws.length cw ws rfl rfl HAW.out (HW.out.keep HB01.out (Nat.le_refl _)) one_cp (by have := HW8.out; omega) (by have := HW8.out; omega) (Nat.le_refl _) ?_
          intro A2 c2 w2 own2 hgrow hat
          simp only [Nat.zero_add, List.nil_append] at own2
          have hb2 : Below w1.heap.size w1 w2 := (Below.refl _ _).grown hgrow (Nat.le_refl _) (fun k hk => by cases hk)
          simp only [Nat.zero_add]
          exact HKX.out _ _ (by unfold MkA; rw [if_neg (by decide), if_neg (by decide), if_pos rfl]; exact ⟨A2, c2, rfl, own2, fun g e => (own2.base_ g ((ob_ ..).trans e)).2⟩) (HS2.out _ hb2) hb2
        · go_simp
          exact HKX.out _ _ (by unfold MkA; rw [if_neg (by decide), if_neg (by decide), if_neg (by decide), if_neg (by decide), if_neg (by decide)]; exact ⟨w1.heap.size, rfl, by simp, own_madeI n w1.heap.size w1 (Nat.le_refl _) (by have := HN64.out; omega) rfl⟩) (HS2.out _ ((Below.refl _ _).alloc (Nat.le_refl _) _)) ((Below.refl _ _).alloc (Nat.le_refl _) _)
        · go_simp
          exact HKX.out _ _ (by unfold MkA; rw [if_neg (by decide), if_neg (by decide), if_neg (by decide), if_neg (by decide), if_neg (by decide)]; exact ⟨w1.heap.size, rfl, by simp, own_madeI n w1.heap.size w1 (Nat.le_refl _) (by have := HN64.out; omega) rfl⟩) (HS2.out _ ((Below.refl _ _).alloc (Nat.le_refl _) _)) ((Below.refl _ _).alloc (Nat.le_refl _) _)
        · go_simp
          exact HKX.out _ _ (by unfold MkA; rw [if_neg (by decide), if_neg (by decide), if_neg (by decide), if_pos rfl]; exact ⟨w1.heap.size, rfl, by simp, own_madeB n w1.heap.size w1 (Nat.le_refl _) (by have := HN64.out; omega) rfl⟩) (HS2.out _ ((Below.refl _ _).alloc (Nat.le_refl _) _)) ((Below.refl _ _).alloc (Nat.le_refl _) _)
        · go_simp
          refine (KNEW.out _).mono ?_
          rintro e w2 ⟨H, rfl, hh2, hb2⟩
          exact HKX.out _ _ (by unfold MkA; rw [if_neg (by decide), if_neg (by decide), if_neg (by decide), if_neg (by decide), if_pos rfl]; exact ⟨H, rfl, hh2.lt, hh2⟩) (HS2.out _ hb2) hb2
      · intro f lo hi w1 hS hB hφ hdj
        have B01 := HB3.out.drew.trans (hB.mono HB3.out.size)
        have hz0' : w.heap.size < w1.heap.size := by have h1 := hB.size; have h2 := lt_of_block HX2.out; simp at h1; omega
        have hs2 : ∀ w2, Below w1.heap.size w1 w2 → w2.cell? ⟨w.heap.size, 0, none⟩ = some (.int .i64 n) ∧ w2.cell? ⟨w.heap.size, 1, none⟩ = some (.slice A l.length c) := fun w2 hb => ⟨(hb.cell (p := ⟨w.heap.size, 0, none⟩) hz0').trans hS.1, (hb.cell (p := ⟨w.heap.size, 1, none⟩) hz0').trans hS.2⟩
        have HS2 := Lib.hid hs2
        obtain ⟨m1, l1, k1⟩ := hφ (1, 30) (by simp)
        obtain ⟨m4, l4, k4⟩ := hφ (4, 33) (by simp)
        obtain ⟨m6, l6, k6⟩ := hφ (6, 35) (by simp)
        obtain ⟨m9, l9, k9⟩ := hφ (9, 38) (by simp)
        obtain ⟨m12, l12, k12⟩ := hφ (12, 41) (by simp)
        obtain ⟨m15, l15, k15⟩ := hφ (15, 44) (by simp)
        obtain ⟨m16, l16, k16⟩ := hφ (16, 45) (by simp)
        have d912 := hdj (9, 38) (by simp) (12, 41) (by simp) (by decide)
        have d49 := hdj (4, 33) (by simp) (9, 38) (by simp) (by decide)
        have d412 := hdj (4, 33) (by simp) (12, 41) (by simp) (by decide)
        simp only at m1 l1 k1 m4 l4 k4 m6 l6 k6 m9 l9 k9 m12 l12 k12 m15 l15 k15 m16 l16 k16 d912 d49 d412
        unfold MkA at m1 m4 m6 m9 m12 m15 m16
        rw [if_pos rfl] at m1
        rw [if_neg (by decide), if_pos rfl] at m4
        rw [if_neg (by decide), if_neg (by decide), if_pos rfl] at m6
        rw [if_neg (by decide), if_neg (by decide), if_neg (by decide), if_neg (by decide), if_neg (by decide)] at m9 m12
        rw [if_neg (by decide), if_neg (by decide), if_neg (by decide), if_pos rfl] at m15
        rw [if_neg (by decide), if_neg (by decide), if_neg (by decide), if_neg (by decide), if_pos rfl] at m16
        obtain ⟨AE, cE, e30, oE, hE⟩ := m1
        obtain ⟨AH, cH, e33, oH, hH4⟩ := m4
        obtain ⟨AW, cW, e35, oW, hW6⟩ := m6
        obtain ⟨SC, e38, hSC, oC⟩ := m9
        obtain ⟨SP, e41, hSP, oP⟩ := m12
        obtain ⟨SD, e44, hSD, oD⟩ := m15
        obtain ⟨H, e45, hH, hh⟩ := m16
        clear hφ
        simp only [putsF, mdst, List.map_cons, List.map_nil, List.foldl_cons, List.foldl_nil, Act.put, List.setIfInBounds_toArray, List.set_cons_zero, List.set_cons_succ, e30, e33, e35, e38, e41, e44, e45]
        clear e30 e33 e35 e38 e41 e44 e45
        have bz := HB3.out.size
        have hsz2 : w.heap.size ≤ w2.drew.heap.size := bz
        have hne : SC ≠ SP := fun e => by have h1 := (oC.base_ SC rfl).1; have h2 := (oP.base_ SP rfl).1; omega
        have hneH : ob AH ≠ some SC ∧ ob AH ≠ some SP := ⟨fun e => by have h1 := (oC.base_ SC rfl).1; have h2 := hH4 SC e; have h3 := (oH.base_ SC ((ob_ ..).trans e)).1; omega, fun e => by have h1 := (oP.base_ SP rfl).1; have h2 := hH4 SP e; have h3 := (oH.base_ SP ((ob_ ..).trans e)).1; omega⟩
        have hmd : Md w.heap.size (w1.alloc (.cells #[.int .i64 n, .slice AE l.length cE, .slice none 0 0, .int .i64 t, .slice AH n cH, .slice AW ws.length cW, .slice (some ⟨SC, 0, none⟩) n n, .slice (some ⟨SP, 0, none⟩) n n, .slice (some ⟨SD, 0, none⟩) n n, .slice none 0 0, .pointer (some ⟨H, 0, none⟩), .int .i64 0, .slice none 0 0] 105)) w1.heap.size n t l hs ws AE cE AH cH AW cW SC SP SD H :=
          ⟨heap_alloc_new _ _, Nat.le_of_lt hz0', (oE.mono (Nat.le_trans hsz2 l1)).alloc _, (oH.mono (Nat.le_trans hsz2 l4)).alloc _, (oW.mono (Nat.le_trans hsz2 l6)).alloc _, (oC.mono (Nat.le_trans hsz2 l9)).alloc _, (oP.mono (Nat.le_trans hsz2 l12)).alloc _, (oD.mono (Nat.le_trans hsz2 l15)).alloc _, (heapA_mono hh (Nat.le_trans hsz2 l16)).alloc _, hne, hneH⟩
        have HMD := Lib.hid hmd
        have HBE := Lib.hid (B01.alloc B01.size (.cells #[.int .i64 n, .slice AE l.length cE, .slice none 0 0, .int .i64 t, .slice AH n cH, .slice AW ws.length cW, .slice (some ⟨SC, 0, none⟩) n n, .slice (some ⟨SP, 0, none⟩) n n, .slice (some ⟨SD, 0, none⟩) n n, .slice none 0 0, .pointer (some ⟨H, 0, none⟩), .int .i64 0, .slice none 0 0] 105))
        clear hdj hmd hne hneH oE oH oW oC oP oD hh hE hH4 hW6 d912 d49 d412 hB B01 hs2
        refine Go.wpAnyH_take (fuel := 2) (i := 17) (oi := _) (v := ?_) rfl (by kernel_rfl) (by kernel_rfl) (by kernel_rfl) (fun _ _ _ h => h) (Or.inl ⟨by rfl, ?_⟩) (by assumption) ?_
        rotate_left
        · (intro w hSw; (try dsimp only at hSw); go_simp)
          try with_reducible rfl
        try simp only [Act.put, List.getElem_toArray, List.getElem_cons_succ, List.getElem_cons_zero, List.setIfInBounds_toArray, List.set_cons_zero, List.set_cons_succ]
        refine Go.wpAnyH_ready (fuel := 1) (rs := [18]) (by kernel_rfl) (by simp) ?_
        refine Go.AllReadyH.cons (o := _) rfl (fun K hK => ?_) Go.AllReadyH.nil
        have HKX := Lib.hid hK
        clear hK
        go_simp
        refine HKX.out.out _ _ (HS2.out _ ((Below.refl _ _).alloc (Nat.le_refl _) _)) (fun hHeld2 => ?_)
        try simp only [Act.put, List.getElem_toArray, List.getElem_cons_succ, List.getElem_cons_zero, List.setIfInBounds_toArray, List.set_cons_zero, List.set_cons_succ]
        refine Go.wpAnyH_take (fuel := 0) (i := 19) (oi := _) (v := ?_) rfl (by kernel_rfl) (by kernel_rfl) (by kernel_rfl) (fun _ _ _ h => h) (Or.inl ⟨by rfl, ?_⟩) (by exact hHeld2) ?_
        rotate_left
        · (intro w hSw; (try dsimp only at hSw); go_simp)
          try with_reducible rfl
        try simp only [Act.put, List.getElem_toArray, List.getElem_cons_succ, List.getElem_cons_zero, List.setIfInBounds_toArray, List.set_cons_zero, List.set_cons_succ]
        refine Go.wpAnyH_done (by kernel_rfl) ?_ _
        go_wp2_with fail
        go_meet
        exact ⟨w1.heap.size, AE, cE, AH, cH, AW, cW, SC, SP, SD, H, rfl, HMD, HBE⟩
  case rest =>
    obtain ⟨Z, AE, cE, AH, cH, AW, cW, SC, SP, SD, H, rfl, HMD, HBE⟩ := hcut
    clear HB3 HX2 KCOPY KNEW HMK HMB HH HW HAH HAW
    have z0 := blk_cell HMD.out.z 0
    have z1 := blk_cell HMD.out.z 1
    have z2 := blk_cell HMD.out.z 2
    have zf := blk_free HMD.out.z 2
    simp only [List.getElem?_toArray, List.getElem?_cons_zero, List.getElem?_cons_succ] at z0 z1 z2
    have zp := lt_of_block HMD.out.z
    have kou := KOUTS.out wc AE cE HMD.out.net.sl.2
    have KOU := Lib.hid kou
    clear kou KOUTS
    go_wp2_with fail
    refine KOU.out.mono ?_
    rintro e w3 ⟨TO, FO, rfl, htab, hb3⟩
    obtain ⟨F, rfl, rfl, rfl, rfl, rfl, am3, hSC, hSP⟩ := HMD.out.search HHL.out hb3 htab
    have hz3 := blk_below HMD.out.z hb3 zp
    have y2 := blk_cell hz3 2
    have yf := blk_free hz3 2
    have yp := lt_of_block hz3
    simp only [List.getElem?_toArray, List.getElem?_cons_zero, List.getElem?_cons_succ] at y2
    have hbb := (HBE.out.trans (hb3.mono HBE.out.size)).setCell (p := ⟨Z, 2, none⟩) HMD.out.zl (.slice (some ⟨TO, 0, none⟩) F.n F.n)
    obtain ⟨hO, hP⟩ := HFACTS.out F rfl rfl rfl rfl rfl
    have HOO := Lib.hid hO
    have HPP := Lib.hid hP
    have AM3 := Lib.hid am3
    have HB4 := Lib.hid hbb
    have hzl := HMD.out.zl
    clear hO hP am3 hbb hz3 hb3 htab HMD HBE KOU HFACTS z0 z1 z2 zf zp
    go_upto_region 9 with fail
    generalize w3.setCell ⟨Z, 2, none⟩ (.slice (some ⟨TO, 0, none⟩) F.n F.n) = w4 at AM3 HB4 ⊢
    clear y2 yf yp
    obtain ⟨_, ⟨z6, _, _, _, _, _, _⟩, zp⟩ := AM3.out.zs
    go_wp2
    go_loopw [61] (fun i wr => ∃ k : Nat, i = .int .i64 k ∧ k ≤ F.n ∧ Hid (AM w.heap.size wr Z F Y0 (sFill F.n k)) ∧ Hid (Below w.heap.size w wr)) (fun i _ => F.n - (intOf i).toNat)
    case atStart => exact ⟨0, rfl, Nat.zero_le _, AM3, HB4⟩
    case round =>
      obtain ⟨k, rfl, hk, HM, HB⟩ := hrel
      clear AM3 HB4 z6 zp
      by_cases hlt : k < F.n
      · obtain ⟨_, ⟨z6, z7, _, _, _, _, _⟩, zp⟩ := HM.out.zs
        obtain ⟨c0, c1⟩ := HM.out.cellC hlt
        obtain ⟨p0, p1⟩ := HM.out.cellP hlt
        have hcp := HM.out.neCP
        have hpc : F.SP ≠ F.SC := fun e => hcp e.symm
        have zk : (k : Int) < (F.n : Int) := by omega
        have zk64 : k < 64 := by have := HN64.out; omega
        have A1 := Lib.hid (am_fill hlt (((HM.out.setC k far).setP k (-1)).keep (below_drewN (Below.refl _ _) 1)))
        have A2 := Lib.hid (am_fill hlt (((HM.out.setP k (-1)).setC k far).keep (below_drewN (Below.refl _ _) 1)))
        have B1 := Lib.hid (((HB.out.setCell (p := ⟨F.SC, k, none⟩) hSC (.int .i64 far)).setCell (p := ⟨F.SP, k, none⟩) hSP (.int .i64 (-1))).drew)
        have B2 := Lib.hid (((HB.out.setCell (p := ⟨F.SP, k, none⟩) hSP (.int .i64 (-1))).setCell (p := ⟨F.SC, k, none⟩) hSC (.int .i64 far)).drew)
        generalize dg (sFill F.n k).C k = cc at c0
        generalize dg (sFill F.n k).P k = pp at p0
        go_wp2_with fail
        go_region
        all_goals
          go_wp2
          go_roundw
          case' rel => first | exact ⟨k + 1, by go_num, hlt, A1, B1⟩ | exact ⟨k + 1, by go_num, hlt, A2, B2⟩
          case' measure => simp [intOf]; omega
      · obtain rfl : k = F.n := by omega
        have sm := am_full HM.out
        have kre := reach_any HOO.out sm (show (s0A F.n).rds.length < F.ws.length from HW1.out) (by omega) HFN.out (c := 0) (u := -1) (Int.le_refl _) (by decide)
        have KRE := Lib.hid kre
        have SM0 := Lib.hid sm
        have zk : ¬ ((F.n : Int) < (F.n : Int)) := by omega
        clear kre sm
        go_wp2_with fail
        refine KRE.out.mono ?_
        rintro e w5 ⟨⟨r5, rfl⟩, Y5, sm5, fr5⟩
        have kse := settle_any HOO.out HPP.out sm5 (si_init HPP.out.cons HPP.out.fr) (by omega)
        have HB5 := Lib.hid (HB.out.trans (SM0.out.am.lo fr5))
        have SM5 := Lib.hid sm5
        have KSE := Lib.hid kse
        clear kse sm5 fr5 KRE
        go_wp2_with fail
        refine KSE.out.mono ?_
        rintro e w6 ⟨⟨r6, rfl⟩, s6, Y6, K6, hst6, sm6, fr6, hK6, htop6⟩
        have hsr : SR w.heap.size w6 Z F Y6 f 0 s6 := ⟨Rn.start hst6, sm6.more (by omega), htop6⟩
        have hfin : NewYes F.n f F.tt F.l F.h F.ws w (.returned (.tuple #[.pointer (some ⟨Z, 0, none⟩), .int .i64 0])) w6 := ⟨Z, F, Y6, s6, rfl, rfl, rfl, rfl, rfl, rfl, HOO.out, HPP.out, hsr, HB5.out.trans (SM5.out.am.lo fr6)⟩
        have HFIN := Lib.hid hfin
        clear hsr hfin hst6 sm6 fr6 htop6 KSE
        go_wp2
        go_ret2
        exact HFIN.out
end Go.Proofs.Ytpoolpaagbeokaa.Ara

namespace Go.Proofs.Ytpoolpaagbeokaa.Ara
open Go.RowKit Go.Proofs.Ytpoolpaagbeokaa NetLaw BellLaw StarLaw AraLaw Go.Proofs.Ytpoolpaagbeokaa.Net Go.Proofs.Ytpoolpaagbeokaa.Std Go.Proofs.Ytpoolpaagbeokaa.Flow
open Go.Proofs.Ytpoolpaagbeokaa.HeapP (HeapAt d0 ltP ltP_ord)
set_option linter.unusedSimpArgs false
set_option linter.unusedVariables false
/-- rounds that were copied, with their ways -/
structure RC (w : World) (b : Nat) (A : Option Addr) (k c : Nat) (R : List RE) (rs : List Rnd) : Prop where
  own : Own w b 43 5 Ara.cr (.slice A k c) R
  ways : ∀ x ∈ R, Own w b 3 1 ci (.slice x.A x.k x.c) x.path
  rnd : R.map RE.rnd = rs
theorem RC.keep {w w' : World} {b : Nat} {A : Option Addr} {k c : Nat} {R : List RE} {rs : List Rnd} (h : RC w b A k c R rs) (hb : Below w.heap.size w w') : RC w' b A k c R rs := ⟨h.own.keep hb, fun x hx => (h.ways x hx).keep hb, h.rnd⟩
theorem RC.len {w : World} {b : Nat} {A : Option Addr} {k c : Nat} {R : List RE} {rs : List Rnd} (h : RC w b A k c R rs) : R.length = k ∧ rs.length = k := by
  have h1 := h.own.sl.1
  exact ⟨h1.symm, by rw [← h.rnd, List.length_map]; exact h1.symm⟩
/-- a block that is of no row here may be written -/
theorem RC.far {w : World} {b : Nat} {A : Option Addr} {k c : Nat} {R : List RE} {rs : List Rnd} (h : RC w b A k c R rs) {p : Addr} (h1 : ob A ≠ some p.block) (h2 : ∀ x ∈ R, ob x.A ≠ some p.block) (u : Value) : RC (w.setCell p u) b A k c R rs :=
  ⟨h.own.setCell (fun e => h1 ((ob_ ..).symm.trans e)) u, fun x hx => (h.ways x hx).setCell (fun e => h2 x hx ((ob_ ..).symm.trans e)) u, h.rnd⟩
/-- a box of a round is of none -/
theorem RC.box {w : World} {b : Nat} {A : Option Addr} {k c : Nat} {R : List RE} {rs : List Rnd} (h : RC w b A k c R rs) {g : Nat} (hg : w.heap.size ≤ g) : ob A ≠ some g ∧ ∀ x ∈ R, ob x.A ≠ some g :=
  ⟨fun e => by have := (h.own.base_ g ((ob_ ..).trans e)).2; omega, fun x hx e => by have := ((h.ways x hx).base_ g ((ob_ ..).trans e)).2; omega⟩
theorem pw_snoc {R : List RE} {z : RE} (h : R.Pairwise fun x y => ob y.A = none ∨ ob y.A ≠ ob x.A) (hz : ∀ y ∈ R, ob z.A = none ∨ ob z.A ≠ ob y.A) : (R ++ [z]).Pairwise fun x y => ob y.A = none ∨ ob y.A ≠ ob x.A := by
  rw [List.pairwise_append]
  refine ⟨h, by simp, fun a ha b hb => ?_⟩
  rw [List.mem_singleton] at hb
  subst hb
  exact hz a ha
section
variable {b : Nat} {w w' : World} {P : Nat} {F : Fix} {Y : Var} {s : AS}
/-- one round's cells -/
theorem AM.roundAt (h : AM b w P F Y s) {j : Nat} (hj : j < Y.kr) : ∃ x S, Y.RS[j]? = some x ∧ x ∈ Y.RS ∧ s.rds[j]? = some x.rnd ∧ Y.AR = some ⟨S, 0, none⟩ ∧ S < w.heap.size ∧ (w.cell? ⟨S, j * 5, none⟩ = some (.int .i64 x.num) ∧ w.cell? ⟨S, j * 5 + 1, none⟩ = some (.int .i64 x.den) ∧ w.cell? ⟨S, j * 5 + 2, none⟩ = some (.slice x.A x.k x.c) ∧ w.cell? ⟨S, j * 5 + 3, none⟩ = some (.int .i64 x.cost) ∧ w.cell? ⟨S, j * 5 + 4, none⟩ = some (.int .i64 x.done)) := by
  have hl := h.lenR
  obtain ⟨S, c, hv, _, hS, _, hc⟩ := h.rows.some_ (by omega)
  have hi : j < Y.RS.length := by omega
  refine ⟨Y.RS[j], S, List.getElem?_eq_getElem hi, List.getElem_mem hi, ?_, ?_, hS, (hc j hi 0 (by omega)).1, (hc j hi 1 (by omega)).1, (hc j hi 2 (by omega)).1, (hc j hi 3 (by omega)).1, (hc j hi 4 (by omega)).1⟩
  · rw [← h.rds, List.getElem?_map, List.getElem?_eq_getElem hi]; rfl
  · injection hv with hv
/-- what Rounds answers -/
def RoundsSay (w : World) (rs : List Rnd) (e : Ending) (w' : World) : Prop :=
  ∃ A k c R, e = .returned (.slice A k c) ∧ RC w' w.heap.size A k c R rs ∧ Below w.heap.size w w'
/-- the same, and no two ways share a block -/
def RoundsSep (w : World) (rs : List Rnd) (e : Ending) (w' : World) : Prop :=
  ∃ A k c R, e = .returned (.slice A k c) ∧ RC w' w.heap.size A k c R rs ∧ Below w.heap.size w w' ∧ R.Pairwise fun x y => ob y.A = none ∨ ob y.A ≠ ob x.A
set_option maxRecDepth 100000 in
set_option maxHeartbeats 8000000 in
theorem rounds_sep (h : AM b w P F Y s) (hpl : ∀ r ∈ s.rds, r.path.length ≤ 64) (hk8 : s.rds.length ≤ 8) :
    Calls Try.prog 19 #[.pointer (some ⟨P, 0, none⟩)] w fun e w' => RoundsSep w s.rds e w' := by
  obtain ⟨i0, hi, hz0, hz1, hz2⟩ := info_parts infoIntO
  obtain ⟨i1, zr, hi1, hzr0, hzr1, hzr2, hzr3⟩ := infoRound
  obtain ⟨_, ⟨_, _, _, _, _, _, z12⟩, zp⟩ := h.zs
  have hkr := h.kr_
  have hk : Y.kr ≤ 8 := by omega
  have AM0 := Lib.hid h
  have HKR := Lib.hid hkr
  have HPL := Lib.hid hpl
  clear h hpl hk8 hkr
  go_enter Try.func19, Try.ntmps19
  go_wp2
  go_loopw [3, 11] (fun s3 i wr => ∃ (j : Nat) (A : Option Addr) (c : Nat) (R : List RE), s3 = .slice A j c ∧ i = .int .i64 j ∧ j ≤ Y.kr ∧ Hid (RC wr w.heap.size A j c R (s.rds.take j)) ∧ Hid (Below w.heap.size w wr) ∧ Hid (R.Pairwise fun x y => ob y.A = none ∨ ob y.A ≠ ob x.A)) (fun _ i _ => Y.kr - (intOf i).toNat)
  case atStart => exact ⟨0, none, 0, [], rfl, rfl, Nat.zero_le _, Lib.hid ⟨Own.nil_, fun x hx => (by cases hx), rfl⟩, Lib.hid (Below.refl _ _), Lib.hid List.Pairwise.nil⟩
  case round =>
    obtain ⟨j, A, c, R, rfl, rfl, hj, HR, HB, HPW⟩ := hrel
    clear z12 zp
    by_cases hlt : j < Y.kr
    · have am := AM0.out.keep HB.out
      obtain ⟨x, S, hx1, hx2, hx3, hAR, hS, c0, c1, c2, c3, c4⟩ := am.roundAt hlt
      have hw := am.ways x hx2
      have hlx : x.path.length = x.k := hw.sl.1.symm
      have hl64 : x.k ≤ 64 := by
        rw [← hlx]
        exact HPL.out x.rnd (List.mem_of_getElem? hx3)
      have hform : x.A = none → x.k = 0 ∧ x.c = 0 := fun e => by
        obtain ⟨A', c', hv, _, hn⟩ := hw.form
        injection hv with h1 h2 h3
        rw [← h1] at hn
        obtain ⟨k1, k2⟩ := hn e
        exact ⟨by rw [h2]; exact k1, by rw [h3]; exact k2⟩
      have HX3 := Lib.hid hx3
      have HW := Lib.hid hw.sl.2
      have HLX := Lib.hid hlx
      have HFO := Lib.hid hform
      have zj : (j : Int) < (Y.kr : Int) := by omega
      have hsz := HB.out.size
      clear hx1 hx2 hx3 hw hlx hform am
      go_upto_region 5 with fail
      have hb4 : Below wr.heap.size wr (wr.alloc (.cells #[.int .i64 x.num, .int .i64 x.den, .slice x.A x.k x.c, .int .i64 x.cost, .int .i64 x.done] 43)) := (Below.refl _ _).alloc (Nat.le_refl _) _
      have hbx := heap_alloc_new wr (.cells #[.int .i64 x.num, .int .i64 x.den, .slice x.A x.k x.c, .int .i64 x.cost, .int .i64 x.done] 43)
      have HR4 := Lib.hid (HR.out.keep hb4)
      have HB4 := Lib.hid (HB.out.trans (hb4.mono hsz))
      have HBX := Lib.hid (HR.out.box (Nat.le_refl _))
      have HWB : Hid (∀ y ∈ R, ∀ g, ob y.A = some g → g < wr.heap.size) := Lib.hid (fun y hy g e => ((HR.out.ways y hy).base_ g ((ob_ ..).trans e)).2)
      have HW4 := Lib.hid ((HW.out.keep hb4 (Nat.le_refl _)).more hb4.size)
      generalize wr.alloc (.cells #[.int .i64 x.num, .int .i64 x.den, .slice x.A x.k x.c, .int .i64 x.cost, .int .i64 x.done] 43) = w4 at HR4 HB4 HW4 hbx hb4 ⊢
      have hX0 : w.heap.size ≤ wr.heap.size := hsz
      have hX4 : wr.heap.size ≤ w4.heap.size := Nat.le_of_lt (lt_of_block hbx)
      generalize wr.heap.size = X at hbx HBX HWB hX0 hX4 ⊢
      clear c0 c1 c2 c3 c4 hb4 HR hAR hS hsz
      have x2 := blk_cell hbx 2
      have zX := lt_of_block hbx
      simp only [List.getElem?_toArray, List.getElem?_cons_zero, List.getElem?_cons_succ] at x2
      have hsz4 := HB4.out.size
      have hbase : ∀ g, (Value.slice (none : Option Addr) 0 0).ownBlock = some g → False := fun g e => by cases e
      have hgo : ∀ (A5 : Option Addr) (c5 : Nat) (w5 : World), Own w5 w4.heap.size 3 1 ci (.slice A5 x.k c5) x.path → w4.grownBy w5 (Value.slice (none : Option Addr) 0 0).ownBlock → (w5.cell? ⟨X, 2, none⟩ = some (.slice x.A x.k x.c) ∧ w5.frozen? ⟨X, 2, none⟩ = false ∧ X < w5.heap.size) ∧ (w5.setCell ⟨X, 2, none⟩ (.slice A5 x.k c5)).heap[X]? = some (.cells #[.int .i64 x.num, .int .i64 x.den, .slice A5 x.k c5, .int .i64 x.cost, .int .i64 x.done] 43 (0, 0)) ∧ RC (w5.setCell ⟨X, 2, none⟩ (.slice A5 x.k c5)) w.heap.size A j c R (s.rds.take j) ∧ Own (w5.setCell ⟨X, 2, none⟩ (.slice A5 x.k c5)) w.heap.size 3 1 ci (.slice A5 x.k c5) x.path ∧ Below w.heap.size w (w5.setCell ⟨X, 2, none⟩ (.slice A5 x.k c5)) := fun A5 c5 w5 ho hg => by
        have hb5 : Below w4.heap.size w4 w5 := (Below.refl _ _).grown hg (Nat.le_refl _) (fun k e => (hbase k e).elim)
        have hz5 := blk_below hbx hb5 zX
        have hs := blk_set hz5 2 (.slice A5 x.k c5)
        refine ⟨⟨by rw [blk_cell hz5]; rfl, blk_free hz5 2, lt_of_block hz5⟩, by simpa using hs, (HR4.out.keep hb5).far (p := ⟨X, 2, none⟩) HBX.out.1 HBX.out.2 _, ?_, (HB4.out.trans (hb5.mono hsz4)).setCell (p := ⟨X, 2, none⟩) hX0 _⟩
        exact (ho.setCell (p := ⟨X, 2, none⟩) (ho.ne_ hz5 (by decide)) _).mono hsz4
      have HGO := Lib.hid hgo
      clear hgo hbase
      go_upto_region 6 with (at_builtin; go_must (refine wpList_pushAll _ rfl (.const (.slice none 0 0)) (.tmp 17) _ rfl w4.heap.size 3 i0 (.int .i64 0) 1 8 ci Try.underlying22 hi hz0 hz1 hz2 rfl (by decide) _ [] 0 rfl rfl Own.nil_ w4.heap.size x.A x.k x.c x.path HLX.out rfl HFO.out HW4.out one_ci (by omega) (by omega) (Nat.le_refl _) ?_; intro A5 c5 w5 hown5 hgrow5 hat5; simp only [Nat.zero_add, List.nil_append] at hown5; obtain ⟨⟨x52, f52, l52⟩, hs5, hr5, ho5, hb5⟩ := HGO.out A5 c5 w5 hown5 hgrow5; have HS5 := Lib.hid hs5; have HR5 := Lib.hid hr5; have HO5 := Lib.hid ho5; have HB5 := Lib.hid hb5; have HPW5 : Hid ((R ++ [(⟨x.num, x.den, A5, x.k, c5, x.cost, x.done, x.path⟩ : RE)]).Pairwise fun x y => ob y.A = none ∨ ob y.A ≠ ob x.A) := Lib.hid (pw_snoc HPW.out (fun y hy => by (cases ha : ob A5 with | none => exact .inl rfl | some g => exact .inr (fun e => by have h1 := (hown5.base_ g ((ob_ ..).trans ha)).1; have h2 := HWB.out y hy g e.symm; omega)))); clear hs5 hr5 ho5 hb5 hown5 hgrow5 hat5))
      generalize w5.setCell ⟨X, 2, none⟩ (.slice A5 x.k c5) = w6 at HS5 HR5 HO5 HB5 ⊢
      clear x52 f52 l52 HGO HR4 HB4 HW4 HBX hbx zX x2 hsz4
      have hbx := HS5.out
      have y0 := blk_cell hbx 0
      have y1 := blk_cell hbx 1
      have y2 := blk_cell hbx 2
      have y3 := blk_cell hbx 3
      have y4 := blk_cell hbx 4
      simp only [List.getElem?_toArray, List.getElem?_cons_zero, List.getElem?_cons_succ] at y0 y1 y2 y3 y4
      have hb7 : Below w6.heap.size w6 (w6.alloc (.cells #[.int .i64 x.num, .int .i64 x.den, .slice A5 x.k c5, .int .i64 x.cost, .int .i64 x.done] 43)) := (Below.refl _ _).alloc (Nat.le_refl _) _
      have hbn := heap_alloc_new w6 (.cells #[.int .i64 x.num, .int .i64 x.den, .slice A5 x.k c5, .int .i64 x.cost, .int .i64 x.done] 43)
      have HBN := Lib.hid hbn
      have HR7 := Lib.hid (HR5.out.keep hb7)
      have HO7 := Lib.hid (HO5.out.keep hb7)
      have HB7 := Lib.hid (HB5.out.trans (hb7.mono HB5.out.size))
      have HLR := Lib.hid HR5.out.len.1
      have hsz7 := HB7.out.size
      have hfin : ∀ (A9 : Option Addr) (c9 : Nat) (w9 : World), Own w9 w.heap.size 43 5 Ara.cr (.slice A9 (j + 1) c9) (R ++ [(⟨x.num, x.den, A5, x.k, c5, x.cost, x.done, x.path⟩ : RE)]) → (w6.alloc (.cells #[.int .i64 x.num, .int .i64 x.den, .slice A5 x.k c5, .int .i64 x.cost, .int .i64 x.done] 43)).grownBy w9 (Value.slice A j c).ownBlock → RC w9 w.heap.size A9 (j + 1) c9 (R ++ [(⟨x.num, x.den, A5, x.k, c5, x.cost, x.done, x.path⟩ : RE)]) (s.rds.take (j + 1)) ∧ Below w.heap.size w w9 := fun A9 c9 w9 ho hg => by
        refine ⟨⟨ho, fun y hy => ?_, ?_⟩, HB7.out.grown hg hsz7 (fun g e => (HR7.out.own.base_ g e).1)⟩
        · rcases List.mem_append.1 hy with hy | hy
          · have h1 := HR7.out.ways y hy
            exact h1.kept hg (own_apart h1 HR7.out.own (by decide))
          · rw [List.mem_singleton] at hy
            subst hy
            exact HO7.out.kept hg (own_apart HO7.out HR7.out.own (by decide))
        · rw [List.map_append, HR7.out.rnd, List.take_add_one, HX3.out]
          rfl
      have HFIN := Lib.hid hfin
      clear hfin hbn hb7 hbx
      go_wp2_with (at_builtin; go_must (refine wpList_push _ rfl (.tmp 21) (.tmp 23) _ rfl w.heap.size 43 i1 zr 5 56 Ara.cr Try.underlying59 hi1 hzr0 hzr1 hzr2 hzr3 (by decide) _ R j HLR.out rfl HR7.out.own w6.heap.size 1 (⟨x.num, x.den, A5, x.k, c5, x.cost, x.done, x.path⟩ : RE) rfl (news5 HBN.out) (fun _ _ => one_cr _ _) (by omega) (by omega) hsz7 ?_; intro A9 c9 w9 hown9 hgrow9 hat9; obtain ⟨hr9, hb9⟩ := HFIN.out A9 c9 w9 hown9 hgrow9; have HR9 := Lib.hid hr9; have HB9 := Lib.hid hb9; clear hr9 hb9 hown9 hgrow9 hat9))
      go_roundw
      case rel => exact ⟨j + 1, A9, c9, _, rfl, by go_num, hlt, HR9, HB9, HPW5⟩
      case measure => simp [intOf]; omega
    · have hjk : j = Y.kr := by omega
      subst hjk
      have hfin : RoundsSep w s.rds (.returned (.slice A Y.kr c)) wr := ⟨A, Y.kr, c, R, rfl, by
        have h1 := HR.out
        rw [HKR.out, List.take_length] at h1
        rw [HKR.out]
        exact h1, HB.out, HPW.out⟩
      have HFIN := Lib.hid hfin
      clear hfin
      go_wp2
      go_ret
      exact HFIN.out
theorem rounds_any (h : AM b w P F Y s) (hpl : ∀ r ∈ s.rds, r.path.length ≤ 64) (hk8 : s.rds.length ≤ 8) :
    Calls Try.prog 19 #[.pointer (some ⟨P, 0, none⟩)] w fun e w' => RoundsSay w s.rds e w' :=
  (rounds_sep h hpl hk8).mono fun e w' ⟨A, k, c, R, h1, h2, h3, _⟩ => ⟨A, k, c, R, h1, h2, h3⟩
end
end Go.Proofs.Ytpoolpaagbeokaa.Ara

namespace Go.Proofs.Ytpoolpaagbeokaa.Ara
open Go.RowKit Go.Proofs.Ytpoolpaagbeokaa NetLaw BellLaw StarLaw AraLaw Go.Proofs.Ytpoolpaagbeokaa.Net Go.Proofs.Ytpoolpaagbeokaa.Std Go.Proofs.Ytpoolpaagbeokaa.Flow
open Go.Proofs.Ytpoolpaagbeokaa.StarF (slook slook_any slook_zero)
set_option linter.unusedSimpArgs false
set_option linter.unusedVariables false
/-- what is wrong with a search's arguments -/
def ncode (N a b : Int) (l : List E) (hs : List Int) (ws : List (Int × Int)) : Int := if slook N a b l hs = 0 then wcode ws else slook N a b l hs
theorem ncode_zero {N a b : Int} {l : List E} {hs : List Int} {ws : List (Int × Int)} : ncode N a b l hs ws = 0 ↔ slook N a b l hs = 0 ∧ wcode ws = 0 := by
  unfold ncode
  split
  · rename_i h; exact ⟨fun x => ⟨h, x⟩, fun x => x.2⟩
  · rename_i h; exact ⟨fun x => absurd x h, fun x => absurd x.1 h⟩
set_option maxRecDepth 100000 in
set_option maxHeartbeats 4000000 in
theorem new_no (N a b : Int) (A : Option Addr) (c : Nat) (l : List E) (Ah : Option Addr) (ch : Nat) (hs : List Int) (Aw : Option Addr) (cw : Nat) (ws : List (Int × Int)) (w : World) (hl : Sl w w.heap.size 3 ce A l) (hh : Sl w w.heap.size 1 ci Ah hs) (hw : Sl w w.heap.size 2 cp Aw ws) (hll : l.length ≤ 9223372036854775807) (hhl : hs.length ≤ 9223372036854775807) (hwl : ws.length ≤ 9223372036854775807) (hx : ncode N a b l hs ws ≠ 0) :
    Calls Try.prog 17 #[.agg #[.int .i64 N, .slice A l.length c], .int .i64 a, .int .i64 b, .slice Ah hs.length ch, .slice Aw ws.length cw] w fun e w' => e = .returned (.tuple #[.pointer none, .int .i64 (ncode N a b l hs ws)]) ∧ Below w.heap.size w w' := by
  have hw0 : Below w.heap.size w (w.alloc (.cells #[.int .i64 N, .slice A l.length c] 52)) := (Below.refl _ _).alloc (Nat.le_refl _) _
  have hbox := heap_alloc_new w (.cells #[.int .i64 N, .slice A l.length c] 52)
  have klook := fun W (hb : Below w.heap.size w W) => slook_any N a b A c l Ah ch hs W ((hl.keep hb (Nat.le_refl _)).more hb.size) ((hh.keep hb (Nat.le_refl _)).more hb.size) hll hhl
  have kwts := fun W (hb : Below w.heap.size w W) => weights_any Aw cw ws W ((hw.keep hb (Nat.le_refl _)).more hb.size) hwl
  have hq := blk_cell hbox 0
  have hq1 := blk_cell hbox 1
  have zx := lt_of_block hbox
  simp only [List.getElem?_toArray, List.getElem?_cons_zero, List.getElem?_cons_succ] at hq hq1
  have KLOOK := Lib.hid klook
  have KWTS := Lib.hid kwts
  have HW0 := Lib.hid hw0
  by_cases h0 : slook N a b l hs = 0
  · have he : ncode N a b l hs ws = wcode ws := by unfold ncode; rw [if_pos h0]
    have hne : (wcode ws != 0) = true := by rw [he] at hx; simpa using hx
    rw [h0] at KLOOK
    rw [he]
    clear he hx hl hh hw klook kwts hbox hw0 h0
    generalize hs.length = mh at *
    generalize l.length = ml at *
    generalize ws.length = mw at *
    generalize wcode ws = z at *
    go_enter Try.func17, Try.ntmps17
    go_wp2_with fail
    refine (KLOOK.out _ HW0.out).mono ?_
    rintro e w1 ⟨rfl, hb1⟩
    have HB2 := Lib.hid (HW0.out.trans (hb1.mono HW0.out.size))
    clear hb1 KLOOK hq hq1 zx
    go_wp2_with fail
    refine (KWTS.out _ HB2.out).mono ?_
    rintro e w2 ⟨rfl, hb3⟩
    have HB3 := Lib.hid (HB2.out.trans (hb3.mono HB2.out.size))
    clear hb3 HB2 KWTS HW0
    go_wp2
    go_ret2
    exact ⟨rfl, HB3.out⟩
  · have he : ncode N a b l hs ws = slook N a b l hs := by unfold ncode; rw [if_neg h0]
    have hne : (slook N a b l hs != 0) = true := by simpa using h0
    rw [he]
    clear he hx hl hh hw klook kwts hbox hw0 h0 KWTS
    generalize hs.length = mh at *
    generalize l.length = ml at *
    generalize ws.length = mw at *
    generalize slook N a b l hs = z at *
    go_enter Try.func17, Try.ntmps17
    go_wp2_with fail
    refine (KLOOK.out _ HW0.out).mono ?_
    rintro e w1 ⟨rfl, hb1⟩
    have HB2 := Lib.hid (HW0.out.trans (hb1.mono HW0.out.size))
    clear hb1 KLOOK hq hq1 zx HW0
    go_wp2
    go_ret2
    exact ⟨rfl, HB2.out⟩
/-- the steps that were taken, as memory has them -/
def spn (w : World) (P : Nat) : Nat := match w.cell? ⟨P, 11, none⟩ with | some (.int _ z) => z.toNat | _ => 0
theorem spn_eq {b : Nat} {w : World} {P : Nat} {F : Fix} {Y : Var} {s : AS} {fr k : Nat} (h : SR b w P F Y fr k s) : spn w P = k := by
  unfold spn
  rw [h.sm.am.zs.2.1.2.2.2.2.2.1, h.run.sp]
  exact Int.toNat_natCast k
/-- what Run answers where nothing is wrong -/
def RunYes (n f t : Nat) (l : List E) (hs : List Int) (ws : List (Int × Int)) (w : World) (e : Ending) (w' : World) : Prop :=
  ∃ A k c R s kk, e = .returned (.tuple #[.slice A k c, .int .i64 0]) ∧ RC w' w.heap.size A k c R s.rds ∧ Rn n t l hs ws f kk s ∧ s.rds.length = ws.length ∧ Below w.heap.size w w'
theorem AM.rc {b : Nat} {w : World} {P : Nat} {F : Fix} {Y : Var} {s : AS} (h : AM b w P F Y s) : RC w b Y.AR Y.kr Y.cr Y.RS s.rds := ⟨h.rows, h.ways, h.rds⟩
end Go.Proofs.Ytpoolpaagbeokaa.Ara
