/- The walk of flow.push. -/
import Derived.Test.YtjhnlkmdkjlkdaaVFlowMem
import Derived.BigRegion
import Derived.BigQuiet
import Derived.Deep.LoopGhost
namespace Go.Proofs.Ytjhnlkmdkjlkdaa.Flow
open Go.RowKit Go.Proofs.Ytjhnlkmdkjlkdaa NetLaw FlowLaw FlowBfs Go.Proofs.Ytjhnlkmdkjlkdaa.Net Go.Proofs.Ytjhnlkmdkjlkdaa.Std Go.Proofs.Ytjhnlkmdkjlkdaa.Queue
set_option linter.unusedSimpArgs false
set_option linter.unusedVariables false
structure PsM (w wr : World) (Sf L : Nat) (G : List Int) : Prop where
  own : Own wr Sf 3 1 ci (.slice (some ⟨Sf, 0, none⟩) L L) G
  len : G.length = L
  keep : ∀ p : Addr, p.block < w.heap.size → p.block ≠ Sf → wr.cell? p = w.cell? p
  lo : Below Sf w wr
  z : w.heap.size ≤ wr.heap.size
theorem PsM.drewN {w wr : World} {Sf L : Nat} {G : List Int} (h : PsM w wr Sf L G) (k : Nat) : PsM w (wr.drewN k) Sf L G :=
  ⟨h.own.drewN k, h.len, fun p h1 h2 => h.keep p h1 h2, below_drewN h.lo k, h.z⟩
theorem PsM.set {w wr : World} {Sf L : Nat} {G : List Int} (h : PsM w wr Sf L G) (i : Nat) (x : Int) : PsM w (wr.setCell ⟨Sf, i, none⟩ (.int .i64 x)) Sf L (G.set i x) :=
  ⟨own_set1 h.len h.own i x, by rw [List.length_set]; exact h.len, fun p h1 h2 => by
    rw [World.cell?_setCell_other _ _ _ _ (fun e => h2 (by rw [← e]))]
    exact h.keep p h1 h2, h.lo.setCell (Nat.le_refl _) _, by simpa [World.setCell] using h.z⟩
theorem Via.rng {n : Nat} {l : List E} {F : List Int} {b v : Int} (hg : NetLaw.Good n l) (h : Via l F b v) : 0 ≤ prv l b ∧ prv l b < n := by
  obtain ⟨a, _, _⟩ := h
  unfold ix at a
  unfold prv
  split
  · rename_i h0
    rw [if_pos h0] at a
    have := hg.ends _ (ed_mem a)
    exact ⟨this.1, this.2.1⟩
  · rename_i h0
    rw [if_neg h0] at a
    have := hg.ends _ (ed_mem a)
    exact ⟨this.2.2.1, this.2.2.2⟩

theorem Pth.inv {l : List E} {F B rest : List Int} {s v : Int} (h : Pth l F B s v rest) : (v = s ∧ rest = []) ∨ ∃ r, rest = B.getD v.toNat 0 :: r ∧ v ≠ s ∧ Via l F (B.getD v.toNat 0) v ∧ Pth l F B s (prv l (B.getD v.toNat 0)) r := by
  cases h with
  | nil => exact .inl ⟨rfl, rfl⟩
  | cons h1 h2 h3 => exact .inr ⟨_, rfl, h1, h2, h3⟩
theorem wrap_in {x : Int} (h1 : -9223372036854775808 ≤ x) (h2 : x ≤ 9223372036854775807) : IntKind.i64.wrap x = x := by simp [IntKind.wrap, IntKind.bits, IntKind.signed]; omega

set_option maxRecDepth 100000 in
set_option maxHeartbeats 8000000 in
theorem push_any (n s t : Nat) (A : Option Addr) (c : Nat) (l : List E) (Sf Sb : Nat) (F B bs : List Int) (w : World) (hl : Sl w Sf 3 ce A l) (hF : Own w Sf 3 1 ci (.slice (some ⟨Sf, 0, none⟩) l.length l.length) F) (hFl : F.length = l.length)
    (hB : Sl w w.heap.size 1 ci (some ⟨Sb, 0, none⟩) B) (hBl : B.length = n) (hne : Sb ≠ Sf) (hg : NetLaw.Good n l) (ht : t < n) (hcap : ∀ i, i < l.length → 0 ≤ fv F i ∧ fv F i ≤ cpt l i) (hcp : ∀ i, i < l.length → cpt l i ≤ 10000)
    (hp : Pth l F B s t bs) (hbs : bs.length ≤ n) (hb0 : bs ≠ []) (hSf : Sf < w.heap.size) (hL0 : 0 < l.length) :
    Calls Try.prog 87 #[.agg #[.int .i64 n, .slice A l.length c], .slice (some ⟨Sf, 0, none⟩) l.length l.length, .slice (some ⟨Sb, 0, none⟩) n n, .int .i64 s, .int .i64 t] w fun e w' =>
      e = .returned (.int .i64 (least l F bs)) ∧ Own w' Sf 3 1 ci (.slice (some ⟨Sf, 0, none⟩) l.length l.length) (bs.foldl (upd (least l F bs)) F) ∧ (bs.foldl (upd (least l F bs)) F).length = l.length ∧ Below Sf w w' := by
  have hN := hg.hi
  have hlen := hg.len
  obtain ⟨hm1, hm2, _⟩ := least_at hp hb0 hcap hcp
  obtain ⟨M, hM⟩ : ∃ M, least l F bs = M := ⟨_, rfl⟩
  obtain ⟨FF, hFF⟩ : ∃ FF, bs.foldl (upd M) F = FF := ⟨_, rfl⟩
  obtain ⟨L, hL⟩ : ∃ L, l.length = L := ⟨_, rfl⟩
  rw [hM, hFF]
  rw [hM] at hm1 hm2
  have hls : (bs.map (res l F)).foldl min 1099511627776 = M := hM
  obtain ⟨bE, oE, rfl⟩ : ∃ bE oE, A = some ⟨bE, oE, none⟩ := by
    obtain ⟨b, o, h, _⟩ := hl hL0
    exact ⟨b, o, h⟩
  have w0a : PsM (w.alloc (.cells #[.int .i64 n, .slice (some ⟨bE, oE, none⟩) L c] 24)) (w.alloc (.cells #[.int .i64 n, .slice (some ⟨bE, oE, none⟩) L c] 24)) Sf L F :=
    ⟨by rw [← hL]; exact hF.alloc _, by rw [← hL]; exact hFl, fun _ _ _ => rfl, Below.refl _ _, Nat.le_refl _⟩
  have hw0 : Below Sf w (w.alloc (.cells #[.int .i64 n, .slice (some ⟨bE, oE, none⟩) L c] 24)) := (Below.refl _ _).alloc (by omega) _
  have hbox := heap_alloc_new w (.cells #[.int .i64 n, .slice (some ⟨bE, oE, none⟩) L c] 24)
  have q0 := blk_cell hbox 0
  have q1 := blk_cell hbox 1
  simp only [List.getElem?_toArray, List.getElem?_cons_zero, List.getElem?_cons_succ] at q0 q1
  have hl' := hl.keep hw0 (Nat.le_refl _)
  have hB' := hB.keep (show Below w.heap.size w _ from (Below.refl _ _).alloc (Nat.le_refl _) (.cells #[.int .i64 n, .slice (some ⟨bE, oE, none⟩) L c] 24)) (Nat.le_refl _)
  rw [hL] at hcap hcp hlen hL0 ⊢
  obtain ⟨W0, hW0⟩ : ∃ W0 : World, W0 = w.alloc (.cells #[.int .i64 n, .slice (some ⟨bE, oE, none⟩) L c] 24) := ⟨_, rfl⟩
  rw [← hW0] at w0a hw0 q0 q1 hl' hB'
  have hz0 : W0.heap.size = w.heap.size + 1 := by rw [hW0]; simp
  -- what a step reads
  have hedge : ∀ (wr : World) (G : List Int), PsM W0 wr Sf L G → ∀ j, j < L → (bE < wr.heap.size ∧ bE ≠ Sf) ∧ wr.cell? ⟨bE, oE + j * 3, none⟩ = some (.int .i64 (fr l j)) ∧ wr.cell? ⟨bE, oE + j * 3 + 1, none⟩ = some (.int .i64 (en l j)) ∧ wr.cell? ⟨bE, oE + j * 3 + 2, none⟩ = some (.int .i64 (cpt l j)) := fun wr G hps j hj => by
    obtain ⟨b, o, f, t, co, h1, h2, h3, h4, h5, h6⟩ := hl'.atE (k := j) (by rw [hL]; exact hj)
    injection h1 with h1
    injection h1 with e1 e2
    subst e1 e2
    have hed : ed l j = (f, t, co) := by rw [ed_at (by rw [hL]; exact hj), h3]
    have k := hps.keep
    have hz := hps.z
    refine ⟨⟨by omega, by omega⟩, ?_, ?_, ?_⟩
    · rw [k ⟨bE, oE + j * 3, none⟩ (by dsimp only; omega) (by dsimp only; omega)]; rw [fr, hed]; exact h4
    · rw [k ⟨bE, oE + j * 3 + 1, none⟩ (by dsimp only; omega) (by dsimp only; omega)]; rw [en, hed]; exact h5
    · rw [k ⟨bE, oE + j * 3 + 2, none⟩ (by dsimp only; omega) (by dsimp only; omega)]; rw [cpt, hed]; exact h6
  have hby : ∀ (wr : World) (G : List Int), PsM W0 wr Sf L G → ∀ v : Nat, v < n → Sb < wr.heap.size ∧ wr.cell? ⟨Sb, v, none⟩ = some (.int .i64 (B.getD v 0)) := fun wr G hps v hv => by
    obtain ⟨h1, h2⟩ := Sl.at1 hB' (k := v) (by omega)
    rw [Nat.zero_add] at h2
    have hz := hps.z
    exact ⟨by omega, by rw [hps.keep ⟨Sb, v, none⟩ (by dsimp only; omega) hne]; exact h2⟩
  have hbx : ∀ (wr : World) (G : List Int), PsM W0 wr Sf L G → w.heap.size < wr.heap.size ∧ wr.cell? ⟨w.heap.size, 0, none⟩ = some (.int .i64 n) ∧ wr.cell? ⟨w.heap.size, 1, none⟩ = some (.slice (some ⟨bE, oE, none⟩) L c) := fun wr G hps => by
    have hz := hps.z
    refine ⟨by omega, ?_, ?_⟩
    · rw [hps.keep ⟨w.heap.size, 0, none⟩ (by dsimp only; omega) (by dsimp only; omega)]; exact q0
    · rw [hps.keep ⟨w.heap.size, 1, none⟩ (by dsimp only; omega) (by dsimp only; omega)]; exact q1
  have HEDGE := Lib.hid hedge
  have HBY := Lib.hid hby
  have HBX := Lib.hid hbx
  have PS0 := Lib.hid w0a
  have PT0 := Lib.hid hp
  have LS0 := Lib.hid hls
  have HG := Lib.hid hg
  have HCAP := Lib.hid hcap
  have HCP := Lib.hid hcp
  have HFF := Lib.hid hFF
  have HW0 := Lib.hid hW0
  have HLL := Lib.hid hL
  have HLO := Lib.hid hw0
  clear hedge hby hbx w0a hp hls hcap hcp hFF hl hl' hB hB' hF hFl hBl hg hM hbox q0 q1 hw0 hL hb0
  clear hW0
  go_enter Try.func87, Try.ntmps87
  go_wp2
  rw [← HW0.out]
  go_loopg [11, 12] bs.length (fun g s11 s12 wr => ∃ (v x : Int) (rest : List Int), s11 = .int .i64 x ∧ s12 = .int .i64 v ∧ (0 ≤ v ∧ v < n) ∧ (0 ≤ x ∧ x ≤ 1099511627776) ∧ Hid (Pth l F B s v rest) ∧ Hid ((rest.map (res l F)).foldl min x = M) ∧ rest.length ≤ g ∧ g ≤ bs.length ∧ Hid (PsM W0 wr Sf L F))
  case atStart => exact ⟨t, 1099511627776, bs, rfl, rfl, ⟨by omega, by omega⟩, ⟨by omega, by omega⟩, PT0, LS0, Nat.le_refl _, Nat.le_refl _, PS0⟩
  case round =>
    obtain ⟨v, x, rest, rfl, rfl, ⟨v0, v1⟩, ⟨x0, x1⟩, PT, LS, hg1, hg2, PS⟩ := hrel
    obtain ⟨v, rfl⟩ := Int.eq_ofNat_of_zero_le v0
    have hvn : v < n := by omega
    clear v0
    rcases Pth.inv PT.out with ⟨hvs, hr⟩ | ⟨r, hr, hvs, hvia, hpt⟩
    · subst hr
      have hx : x = M := LS.out
      subst hx
      have d1 : ((v : Int) != (s : Int)) = false := by simp [hvs]
      clear hvs LS PT LS0
      obtain ⟨W1, rfl⟩ : ∃ W1 : World, W1 = wr := ⟨_, rfl⟩
      have hb00 : ∀ i, -(10000 * (65 - (bs.length : Int))) ≤ fv F i ∧ fv F i ≤ 10000 * (65 - (bs.length : Int)) := fun i => by
        by_cases hi : i < L
        · have a := HCAP.out i hi
          have b := HCP.out i hi
          omega
        · have : fv F i = 0 := by
            unfold fv
            rw [List.getD_eq_getElem?_getD, List.getElem?_eq_none (by rw [PS.out.len]; omega)]
            rfl
          omega
      have HB0 := Lib.hid hb00
      clear hb00
      go_wp2
      go_loopg [14] bs.length (fun g s14 wr => ∃ (v : Int) (rest G : List Int), s14 = .int .i64 v ∧ (0 ≤ v ∧ v < n) ∧ Hid (Pth l F B s v rest) ∧ Hid (rest.foldl (upd x) G = FF) ∧ Hid (PsM W0 wr Sf L G) ∧ Hid (∀ i, -(10000 * (65 - (rest.length : Int))) ≤ fv G i ∧ fv G i ≤ 10000 * (65 - (rest.length : Int))) ∧ rest.length ≤ g ∧ g ≤ bs.length)
      case atStart => exact ⟨t, bs, F, rfl, ⟨by omega, by omega⟩, PT0, HFF, PS, HB0, Nat.le_refl _, Nat.le_refl _⟩
      case round =>
        clear PS HB0 PT0 HFF hg1 hg2 d1
        obtain ⟨v, rest, G, rfl, ⟨v0, v1⟩, PT, FD, PS, HB, hg1, hg2⟩ := hrel
        obtain ⟨v, rfl⟩ := Int.eq_ofNat_of_zero_le v0
        have hvn : v < n := by omega
        clear v0
        rcases Pth.inv PT.out with ⟨hvs, hr⟩ | ⟨r, hr, hvs, hvia, hpt⟩
        · subst hr
          have hG : G = FF := FD.out
          subst hG
          have d1 : ((v : Int) != (s : Int)) = false := by simp [hvs]
          clear hvs PT FD
          go_wp2
          go_ret
          exact ⟨rfl, PS.out.own, PS.out.len, HLO.out.trans PS.out.lo⟩
        · rw [Int.toNat_natCast] at hr hvia hpt
          obtain ⟨zb, cb'⟩ := HBY.out wr G PS.out v hvn
          have hrng := Via.rng HG.out hvia
          have hfd := FD.out
          rw [hr, List.foldl_cons] at hfd
          have hrl : rest.length = r.length + 1 := by rw [hr]; rfl
          have d1 : ((v : Int) != (s : Int)) = true := by rw [bne_iff_ne]; exact hvs
          obtain ⟨b, hb⟩ : ∃ b, B.getD v 0 = b := ⟨_, rfl⟩
          rw [hb] at cb' hvia hpt hrng hfd
          obtain ⟨hix, _, _⟩ := hvia
          rw [HLL.out] at hix
          obtain ⟨zx, p0, p1⟩ := HBX.out wr G PS.out
          have HPT := Lib.hid hpt
          have hbd : ∀ (G' : List Int) (j : Nat) (z : Int), G' = G.set j z → j < L → -(10000 * (65 - (r.length : Int))) ≤ z ∧ z ≤ 10000 * (65 - (r.length : Int)) → ∀ i, -(10000 * (65 - (r.length : Int))) ≤ fv G' i ∧ fv G' i ≤ 10000 * (65 - (r.length : Int)) := fun G' j z e hj hz i => by
            subst e
            rw [FlowLaw.fl_set (by rw [PS.out.len]; exact hj)]
            have := HB.out i
            split
            · exact hz
            · omega
          have HBD := Lib.hid hbd
          clear hr hb hpt hvs PT FD hbd
          by_cases hb0 : 0 ≤ b
          · obtain ⟨j, rfl⟩ := Int.eq_ofNat_of_zero_le hb0
            have hjL : j < L := by unfold ix at hix; rw [if_pos hb0, Int.toNat_natCast] at hix; exact hix
            have hprv : prv l (j : Int) = fr l j := by unfold prv; rw [if_pos hb0, Int.toNat_natCast]
            have hup : upd x G (j : Int) = G.set j (fv G j + x) := by unfold upd; rw [if_pos hb0, Int.toNat_natCast]
            obtain ⟨⟨zE, zE2⟩, e0, e1, e2⟩ := HEDGE.out wr G PS.out j hjL
            have ef : wr.cell? ⟨Sf, j, none⟩ = some (.int .i64 (fv G j)) := (own_at1 PS.out.len PS.out.own hjL).1
            have ff := (own_at1 PS.out.len PS.out.own hjL).2
            have hGb := HB.out j
            rw [hprv] at hrng HPT
            rw [hup] at hfd
            have zSf : Sf < wr.heap.size := (PS.out.own.base_ Sf rfl).2
            obtain ⟨f, hf⟩ : ∃ f, fr l j = f := ⟨_, rfl⟩
            obtain ⟨y, hy⟩ : ∃ y, fv G j = y := ⟨_, rfl⟩
            rw [hf] at e0 hrng HPT
            rw [hy] at ef hfd hGb
            have hps := PS.out.set j (y + x)
            have hbd2 := HBD.out _ j (y + x) rfl hjL (by omega)
            have wd : IntKind.i64.wrap (y + x) = y + x := wrap_in (by omega) (by omega)
            have zj : (j : Int) < (L : Int) := by omega
            have zv : (v : Int) < (n : Int) := by omega
            have hbS : ¬ bE = Sf := zE2
            have hxS : ¬ w.heap.size = Sf := by omega
            have HPS := Lib.hid hps
            have HB2 := Lib.hid hbd2
            have HFD := Lib.hid hfd
            have HRNG := Lib.hid hrng
            clear hps hbd2 hfd hrng hf hy hup hprv hix e1 e2 hGb PS HB HBD
            go_wp2
            go_roundg r.length
            case measure => omega
            case rel => exact ⟨f, r, _, rfl, HRNG.out, HPT, HFD, HPS, HB2, Nat.le_refl _, by omega⟩
          · obtain ⟨j, hj⟩ : ∃ j : Nat, -1 - b = (j : Int) := Int.eq_ofNat_of_zero_le (by omega)
            have hjt : (-1 - b).toNat = j := by omega
            have hjL : j < L := by unfold ix at hix; rw [if_neg hb0, hjt] at hix; exact hix
            have hprv : prv l b = en l j := by unfold prv; rw [if_neg hb0, hjt]
            have hup : upd x G b = G.set j (fv G j - x) := by unfold upd; rw [if_neg hb0, hjt]
            obtain ⟨⟨zE, zE2⟩, e0, e1, e2⟩ := HEDGE.out wr G PS.out j hjL
            have ef : wr.cell? ⟨Sf, j, none⟩ = some (.int .i64 (fv G j)) := (own_at1 PS.out.len PS.out.own hjL).1
            have ff := (own_at1 PS.out.len PS.out.own hjL).2
            have hGb := HB.out j
            rw [hprv] at hrng HPT
            rw [hup] at hfd
            have zSf : Sf < wr.heap.size := (PS.out.own.base_ Sf rfl).2
            obtain ⟨f, hf⟩ : ∃ f, en l j = f := ⟨_, rfl⟩
            obtain ⟨y, hy⟩ : ∃ y, fv G j = y := ⟨_, rfl⟩
            rw [hf] at e1 hrng HPT
            rw [hy] at ef hfd hGb
            have hps := PS.out.set j (y - x)
            have hbd2 := HBD.out _ j (y - x) rfl hjL (by omega)
            have wd : IntKind.i64.wrap (y - x) = y - x := wrap_in (by omega) (by omega)
            have wb : IntKind.i64.wrap (-1 - b) = (j : Int) := by rw [hj]; exact wrap_in (by omega) (by omega)
            have db : decide (b ≥ 0) = false := decide_eq_false hb0
            have db2 : decide (0 ≤ b) = false := decide_eq_false hb0
            have zj : (j : Int) < (L : Int) := by omega
            have zv : (v : Int) < (n : Int) := by omega
            have hbS : ¬ bE = Sf := zE2
            have hxS : ¬ w.heap.size = Sf := by omega
            have HPS := Lib.hid hps
            have HB2 := Lib.hid hbd2
            have HFD := Lib.hid hfd
            have HRNG := Lib.hid hrng
            clear hps hbd2 hfd hrng hf hy hup hprv hix hj hjt e0 e2 hGb PS HB HBD
            go_wp2
            go_roundg r.length
            case measure => omega
            case rel => exact ⟨f, r, _, rfl, HRNG.out, HPT, HFD, HPS, HB2, Nat.le_refl _, by omega⟩
    · rw [Int.toNat_natCast] at hr hvia hpt
      obtain ⟨zb, cb'⟩ := HBY.out wr F PS.out v hvn
      have hrng := Via.rng HG.out hvia
      have hls := LS.out
      rw [hr, List.map_cons, List.foldl_cons] at hls
      have hrl : rest.length = r.length + 1 := by rw [hr]; rfl
      have d1 : ((v : Int) != (s : Int)) = true := by rw [bne_iff_ne]; exact hvs
      obtain ⟨b, hb⟩ : ∃ b, B.getD v 0 = b := ⟨_, rfl⟩
      rw [hb] at cb' hvia hpt hrng hls
      obtain ⟨hix, _, hres⟩ := hvia
      rw [HLL.out] at hix
      obtain ⟨zx, p0, p1⟩ := HBX.out wr F PS.out
      have HPT := Lib.hid hpt
      clear hr hb hpt hvs PT LS
      by_cases hb0 : 0 ≤ b
      · obtain ⟨j, rfl⟩ := Int.eq_ofNat_of_zero_le hb0
        have hjL : j < L := by unfold ix at hix; rw [if_pos hb0, Int.toNat_natCast] at hix; exact hix
        have hprv : prv l (j : Int) = fr l j := by unfold prv; rw [if_pos hb0, Int.toNat_natCast]
        have hre : res l F (j : Int) = cpt l j - fv F j := by unfold res; rw [if_pos hb0, Int.toNat_natCast]
        obtain ⟨⟨zE, zE2⟩, e0, e1, e2⟩ := HEDGE.out wr F PS.out j hjL
        have ef : wr.cell? ⟨Sf, j, none⟩ = some (.int .i64 (fv F j)) := (own_at1 PS.out.len PS.out.own hjL).1
        have hc := HCAP.out j hjL
        have hc2 := HCP.out j hjL
        rw [hprv] at hrng HPT
        rw [hre] at hls hres
        have zSf : Sf < wr.heap.size := (PS.out.own.base_ Sf rfl).2
        obtain ⟨f, hf⟩ : ∃ f, fr l j = f := ⟨_, rfl⟩
        obtain ⟨co, hco⟩ : ∃ co, cpt l j = co := ⟨_, rfl⟩
        obtain ⟨y, hy⟩ : ∃ y, fv F j = y := ⟨_, rfl⟩
        rw [hf] at e0 hrng HPT
        rw [hco] at e2 hc hc2 hls hres
        rw [hy] at ef hc hls hres
        obtain ⟨c0, c1'⟩ := hc
        obtain ⟨d, hd⟩ : ∃ d, co - y = d := ⟨_, rfl⟩
        obtain ⟨mn, hmn⟩ : ∃ mn, min x d = mn := ⟨_, rfl⟩
        rw [hd] at hls hres
        rw [hmn] at hls
        have wd : IntKind.i64.wrap (co - y) = d := by rw [hd]; exact wrap_in (by omega) (by omega)
        have hif : (if d < x then d else x) = mn := by split <;> omega
        have hmb : 0 ≤ mn ∧ mn ≤ 1099511627776 := by omega
        have zj : (j : Int) < (L : Int) := by omega
        have zv : (v : Int) < (n : Int) := by omega
        have HLS := Lib.hid hls
        have HD := Lib.hid hd
        have HRNG := Lib.hid hrng
        have HMB := Lib.hid hmb
        clear hd hf hco hy hmn hls hrng hmb hprv hre hix hres LS0 e1 c1' hc2
        go_wp2
        go_quiet (fail)
        go_wp2
        go_roundg r.length
        case measure => omega
        case rel => exact ⟨f, mn, r, rfl, rfl, HRNG.out, HMB.out, HPT, HLS, Nat.le_refl _, by omega, Lib.hid (PS.out.drewN _)⟩
      · obtain ⟨j, hj⟩ : ∃ j : Nat, -1 - b = (j : Int) := Int.eq_ofNat_of_zero_le (by omega)
        have hjt : (-1 - b).toNat = j := by omega
        have hjL : j < L := by unfold ix at hix; rw [if_neg hb0, hjt] at hix; exact hix
        have hprv : prv l b = en l j := by unfold prv; rw [if_neg hb0, hjt]
        have hre : res l F b = fv F j := by unfold res; rw [if_neg hb0, hjt]
        obtain ⟨⟨zE, zE2⟩, e0, e1, e2⟩ := HEDGE.out wr F PS.out j hjL
        have ef : wr.cell? ⟨Sf, j, none⟩ = some (.int .i64 (fv F j)) := (own_at1 PS.out.len PS.out.own hjL).1
        rw [hprv] at hrng HPT
        rw [hre] at hls hres
        have zSf : Sf < wr.heap.size := (PS.out.own.base_ Sf rfl).2
        have wb : IntKind.i64.wrap (-1 - b) = (j : Int) := by rw [hj]; exact wrap_in (by omega) (by omega)
        have db : decide (b ≥ 0) = false := decide_eq_false hb0
        have db2 : decide (0 ≤ b) = false := decide_eq_false hb0
        obtain ⟨f, hf⟩ : ∃ f, en l j = f := ⟨_, rfl⟩
        obtain ⟨y, hy⟩ : ∃ y, fv F j = y := ⟨_, rfl⟩
        rw [hf] at e1 hrng HPT
        rw [hy] at ef hls hres
        obtain ⟨mn, hmn⟩ : ∃ mn, min x y = mn := ⟨_, rfl⟩
        rw [hmn] at hls
        have hif : (if y < x then y else x) = mn := by split <;> omega
        have hmb : 0 ≤ mn ∧ mn ≤ 1099511627776 := by omega
        have zj : (j : Int) < (L : Int) := by omega
        have zv : (v : Int) < (n : Int) := by omega
        have HLS := Lib.hid hls
        have HRNG := Lib.hid hrng
        have HMB := Lib.hid hmb
        clear hj hjt hf hy hmn hls hrng hmb hprv hre hix hres LS0 e0 e2
        go_wp2
        go_roundg r.length
        case measure => omega
        case rel => exact ⟨f, mn, r, rfl, rfl, HRNG.out, HMB.out, HPT, HLS, Nat.le_refl _, by omega, PS⟩
end Go.Proofs.Ytjhnlkmdkjlkdaa.Flow
