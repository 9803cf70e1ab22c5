/- The walk of heur.Check. -/
import Derived.Test.YtpoolpaagbeokaaVDijkWalks
import Derived.Test.YtpoolpaagbeokaaVHeurLaw
namespace Go.Proofs.Ytpoolpaagbeokaa.Heur
open Go.RowKit Go.Proofs.Ytpoolpaagbeokaa NetLaw BellLaw DijkLaw HeurLaw Go.Proofs.Ytpoolpaagbeokaa.Net Go.Proofs.Ytpoolpaagbeokaa.Dijk Go.Proofs.Ytpoolpaagbeokaa.Std
set_option linter.unusedSimpArgs false
set_option linter.unusedVariables false

theorem getD_dg (D : List Int) (v : Nat) : D.getD v 0 = dg D (v : Int) := by rw [dg, Int.toNat_natCast]
/-- a cell of a list that is read, in the walk's spelling -/
theorem atD {w : World} {B : Nat} {A : Option Addr} {l : List Int} (h : Sl w B 1 ci A l) {k : Nat} (hk : k < l.length) :
    ∃ b off, A = some ⟨b, off, none⟩ ∧ b < B ∧ w.cell? ⟨b, off + k, none⟩ = some (.int .i64 (dg l (k : Int))) := by
  obtain ⟨b, off, hA, hb, hc⟩ := h.atI hk
  refine ⟨b, off, hA, hb, ?_⟩
  rw [hc, dg, Int.toNat_natCast, List.getD_eq_getElem?_getD, List.getElem?_eq_getElem hk]
  rfl

set_option maxRecDepth 100000 in
set_option maxHeartbeats 2000000 in
theorem check_h (N tt : Int) (A : Option Addr) (c : Nat) (l : List E) (Ah : Option Addr) (ch : Nat) (hs : List Int) (w : World) (hl : Sl w w.heap.size 3 ce A l) (hh : Sl w w.heap.size 1 ci Ah hs) (hlen : l.length ≤ 9223372036854775807) (hlen' : hs.length ≤ 9223372036854775807) :
    Calls Try.prog 54 #[.agg #[.int .i64 N, .slice A l.length c], .int .i64 tt, .slice Ah hs.length ch] w fun e w' => e = .returned (.int .i64 (hck (Dijk.look N l [tt]) N tt l hs)) ∧ Below w.heap.size w w' := by
  have hw0 : Below w.heap.size w ((w.alloc (.cells #[.int .i64 N, .slice A l.length c] 52)).alloc (.cells #[.int .i64 tt] 3)) := ((Below.refl _ _).alloc (Nat.le_refl _) _).alloc (by simp) _
  have hz0 : w.heap.size ≤ ((w.alloc (.cells #[.int .i64 N, .slice A l.length c] 52)).alloc (.cells #[.int .i64 tt] 3)).heap.size := by simp; omega
  have hbox := blk_alloc (heap_alloc_new w (.cells #[.int .i64 N, .slice A l.length c] 52)) (.cells #[.int .i64 tt] 3)
  have key := look_any N A c l (some ⟨w.heap.size + 1, 0, none⟩) 1 1 [tt] _ ((hl.keep hw0 (Nat.le_refl _)).more hz0) (sl_new' (by decide) (w.alloc (.cells #[.int .i64 N, .slice A l.length c] 52)) #[.int .i64 tt] 3 [tt] (by simp) rfl) rfl hlen (by decide)
  by_cases hx : Dijk.look N l [tt] = 0
  · obtain ⟨hg, hc, f0, f1⟩ := look_zero hx
    generalize hR : hck (Dijk.look N l [tt]) N tt l hs = R
    have hp : R = if (hs.length : Int) ≠ N then 1 else if hrE hs ≠ 0 then hrE hs else if dg hs tt ≠ 0 then 7 else heE hs l := by rw [← hR]; unfold hck; rw [if_neg (by omega)]
    have hN := hg.lo
    have hN2 := hg.hi
    have h6 := hg.len
    rw [hx] at key
    have KEY := Lib.hid key
    have HP := Lib.hid hp
    have HBOX := Lib.hid hbox
    have HG := Lib.hid hg
    have HC := Lib.hid hc
    clear key hp hx hbox hg hc hlen hR
    obtain ⟨n, rfl⟩ := Int.eq_ofNat_of_zero_le (show 0 ≤ N by omega)
    obtain ⟨t, rfl⟩ := Int.eq_ofNat_of_zero_le f0
    by_cases hsl : hs.length = n
    · subst hsl
      have hne : ((hs.length : Int) != (hs.length : Int)) = false := by simp
      have ht : t < hs.length := by omega
      obtain ⟨bh, oh, rfl, hbh, _⟩ := atD hh ht
      go_enter Try.func54, Try.ntmps54
      go_wp2_with fail
      refine KEY.out.mono ?_
      rintro e w1 ⟨rfl, hb1⟩
      have H1 := hw0.trans (hb1.mono hz0)
      have hb := blk_below HBOX.out hb1 (by simp; omega)
      have hz1 := H1.size
      have hzb : w.heap.size < w1.heap.size := lt_of_block hb
      have HB := Lib.hid hb
      have q0 := blk_cell hb 0
      have q1 := blk_cell hb 1
      simp only [List.getElem?_toArray, List.getElem?_cons_zero, List.getElem?_cons_succ] at q0 q1
      clear hb hb1
      go_wp2
      go_loopw [26] (fun i wr => ∃ k : Nat, k ≤ hs.length ∧ i = .int .i64 k ∧ Hid (hrE hs = hrE (hs.drop k)) ∧ w1 = wr) (fun i _ => hs.length - (intOf i).toNat)
      case atStart => exact ⟨0, Nat.zero_le _, rfl, Lib.hid rfl, rfl⟩
      case round =>
        obtain ⟨k, hk, rfl, hpe, rfl⟩ := hrel
        by_cases hlt : k < hs.length
        · obtain ⟨b, off, hA, hbB, hcx⟩ := (hh.keep H1 (Nat.le_refl _)).atI hlt
          injection hA with hA
          injection hA with hA1 hA2
          subst hA1 hA2
          have hst := hrE_drop hs k hlt
          rw [← hpe.out] at hst
          generalize hs[k] = x at *
          have HST := Lib.hid hst
          clear hst hpe
          by_cases hlo : x < 0
          · have hfin : R = 1 := by rw [HP.out, if_neg (by simp), if_pos (show hrE hs ≠ 0 by rw [HST.out, if_pos (Or.inl hlo)]; decide), HST.out, if_pos (Or.inl hlo)]
            have HF := Lib.hid hfin
            clear hfin
            go_wp2
            go_ret
            exact ⟨ret_int HF.out.symm, H1⟩
          · by_cases hhi : 1099511627776 < x
            · have hfin : R = 1 := by rw [HP.out, if_neg (by simp), if_pos (show hrE hs ≠ 0 by rw [HST.out, if_pos (show x < 0 ∨ far < x from Or.inr hhi)]; decide), HST.out, if_pos (show x < 0 ∨ far < x from Or.inr hhi)]
              have HF := Lib.hid hfin
              clear hfin
              go_wp2
              go_ret
              exact ⟨ret_int HF.out.symm, H1⟩
            · have hno : ¬ (x < 0 ∨ far < x) := by unfold far; omega
              have HNO := Lib.hid hno
              clear hno
              go_wp2
              go_roundw
              case rel => exact ⟨k + 1, by omega, by go_num, Lib.hid (by rw [HST.out, if_neg HNO.out]), by trivial⟩
              case measure => simp [intOf]; omega
        · obtain rfl : k = hs.length := by omega
          have hr0 : hrE hs = 0 := by rw [hpe.out, List.drop_length]; rfl
          have hbd := hrE_zero.1 hr0
          obtain ⟨b, off, hA, hbB, hct⟩ := atD (hh.keep H1 (Nat.le_refl _)) ht
          injection hA with hA
          injection hA with hA1 hA2
          subst hA1 hA2
          have HR0 := Lib.hid hr0
          have HBD := Lib.hid hbd
          clear hr0 hbd hpe hlt
          by_cases hz : dg hs (t : Int) = 0
          · have hp2 : R = heE hs l := by rw [HP.out, if_neg (by simp), if_neg (by rw [HR0.out]; decide), if_neg (by rw [hz]; decide)]
            have HP2 := Lib.hid hp2
            have hne2 : (dg hs (t : Int) != 0) = false := by rw [hz]; rfl
            generalize dg hs (t : Int) = z at *
            clear hp2 hz
            go_wp2
            go_loopw [45] (fun i wr => ∃ k : Nat, k ≤ l.length ∧ i = .int .i64 k ∧ Hid (heE hs l = heE hs (l.drop k)) ∧ Below w1.heap.size w1 wr) (fun i _ => l.length - (intOf i).toNat)
            case atStart => exact ⟨0, Nat.zero_le _, rfl, Lib.hid rfl, Below.refl _ _⟩
            case round =>
              obtain ⟨k, hk, rfl, hpe, hB⟩ := hrel
              clear q0 q1 hct hne2
              have hH := H1.trans (hB.mono hz1)
              by_cases hlt : k < l.length
              · obtain ⟨b', off', f, u, co, rfl, hbB', he, hcf, hct, hcc⟩ := (hl.keep hH (Nat.le_refl _)).atE hlt
                have hst := heE_drop hs l k hlt
                rw [← hpe.out, he] at hst
                have hg := HG.out
                have hen := hg.ends _ (List.getElem_mem hlt)
                have hco := hg.cost _ (List.getElem_mem hlt)
                rw [he] at hen hco
                obtain ⟨f0', f1', u0, u1⟩ := hen
                simp only at f0' f1' u0 u1 hco hst
                obtain ⟨f, rfl⟩ := Int.eq_ofNat_of_zero_le f0'
                obtain ⟨u, rfl⟩ := Int.eq_ofNat_of_zero_le u0
                have hfl : f < hs.length := by omega
                have hul : u < hs.length := by omega
                obtain ⟨b1, o1, hA, _, hc1⟩ := atD (hh.keep hH (Nat.le_refl _)) hfl
                injection hA with hA
                injection hA with hA1 hA2
                subst hA1 hA2
                obtain ⟨b1, o1, hA, _, hc2⟩ := atD (hh.keep hH (Nat.le_refl _)) hul
                injection hA with hA
                injection hA with hA1 hA2
                subst hA1 hA2
                have hx0 := HBD.out _ (dg_mem (a := hs) (v := (f : Int)) (by omega) (by omega))
                have hy0 := HBD.out _ (dg_mem (a := hs) (v := (u : Int)) (by omega) (by omega))
                have HST := Lib.hid hst
                unfold far at hx0 hy0
                generalize dg hs (f : Int) = x at *
                generalize dg hs (u : Int) = y at *
                obtain ⟨hx0, hx1⟩ := hx0
                obtain ⟨hy0, hy1⟩ := hy0
                obtain ⟨co0, co1⟩ := hco
                have hbw : bh < wr.heap.size := by have := hB.size; omega
                have hbw' : b' < wr.heap.size := by have := hB.size; omega
                have hE := hB.alloc hB.size (.cells #[.int .i64 f, .int .i64 u, .int .i64 co] 110)
                clear hst hpe he hg f0' u0 hB hH
                by_cases hbad : co + y < x
                · have hfin : R = 7 := by rw [HP2.out, HST.out, if_pos hbad]
                  have HF := Lib.hid hfin
                  have hd : decide (x > co + y) = true := decide_eq_true hbad
                  have hd2 : decide (co + y < x) = true := decide_eq_true hbad
                  clear hfin
                  go_wp2
                  go_quiet (fail)
                  go_wp2
                  go_ret
                  exact ⟨ret_int HF.out.symm, H1.trans ((below_drewN hE _).mono hz1)⟩
                · have hd : decide (x > co + y) = false := by simp; omega
                  have hd2 : decide (co + y < x) = false := by simp; omega
                  go_wp2
                  go_quiet (fail)
                  go_wp2
                  go_roundw
                  case rel => exact ⟨k + 1, by omega, by go_num, Lib.hid (by rw [HST.out, if_neg (show ¬ (co + y < x) by omega)]), below_drewN hE _⟩
                  case measure => simp [intOf]; omega
              · obtain rfl : k = l.length := by omega
                have hfin : R = 0 := by rw [HP2.out, hpe.out, List.drop_length]; rfl
                have HF := Lib.hid hfin
                clear hfin hpe
                go_wp2
                go_ret
                exact ⟨ret_int HF.out.symm, hH⟩
          · have hfin : R = 7 := by rw [HP.out, if_neg (by simp), if_neg (by rw [HR0.out]; decide), if_pos hz]
            have HF := Lib.hid hfin
            have hne2 : (dg hs (t : Int) != 0) = true := by rw [bne_iff_ne]; exact hz
            generalize dg hs (t : Int) = z at *
            clear hfin hz
            go_wp2
            go_ret
            exact ⟨ret_int HF.out.symm, H1⟩
    · have hne : ((hs.length : Int) != (n : Int)) = true := by rw [bne_iff_ne]; omega
      have hfin : R = 1 := by rw [HP.out, if_pos (by omega)]
      have HF := Lib.hid hfin
      clear hfin hl hh
      go_enter Try.func54, Try.ntmps54
      go_wp2_with fail
      refine KEY.out.mono ?_
      rintro e w1 ⟨rfl, hb1⟩
      have H1 := hw0.trans (hb1.mono hz0)
      have hb := blk_below HBOX.out hb1 (by simp; omega)
      have q0 := blk_cell hb 0
      have q1 := blk_cell hb 1
      simp only [List.getElem?_toArray, List.getElem?_cons_zero, List.getElem?_cons_succ] at q0 q1
      clear hb hb1
      go_wp2
      go_ret
      exact ⟨ret_int HF.out.symm, H1⟩
  · have hp : hck (Dijk.look N l [tt]) N tt l hs = Dijk.look N l [tt] := by unfold hck; rw [if_pos hx]
    have hne : (Dijk.look N l [tt] != 0) = true := by rw [bne_iff_ne]; exact hx
    rw [hp]
    clear hp
    generalize Dijk.look N l [tt] = x at *
    have KEY := Lib.hid key
    clear key hl hh hbox hx
    go_enter Try.func54, Try.ntmps54
    go_wp2_with fail
    refine KEY.out.mono ?_
    rintro e w1 ⟨rfl, hb1⟩
    have H1 := hw0.trans (hb1.mono hz0)
    clear hb1
    go_wp2
    go_ret
    exact ⟨rfl, H1⟩
end Go.Proofs.Ytpoolpaagbeokaa.Heur
