/- The walk of flow.seek. -/
import Derived.Test.YtjhnlkmdkjlkdaaVFlowMem
import Derived.Deep.RegionHeld3
import Derived.BigRegion
import Derived.BigQuiet
import Derived.Deep.LoopGhost
import Derived.Deep.CutRange
namespace Go.Proofs.Ytjhnlkmdkjlkdaa.Flow
open Go.RowKit Go.Proofs.Ytjhnlkmdkjlkdaa NetLaw FlowLaw FlowBfs Go.Proofs.Ytjhnlkmdkjlkdaa.Net Go.Proofs.Ytjhnlkmdkjlkdaa.Std Go.Proofs.Ytjhnlkmdkjlkdaa.Queue
set_option linter.unusedSimpArgs false
set_option linter.unusedVariables false
theorem infoIntF : (Try.prog.info? 3).map (fun i => (i.zero, i.size, i.bytes)) = some (some (.int .i64 0), 1, 8) := by kernel_rfl
def SeekSays (n : Nat) (l : List E) (F : List Int) (s : Nat) (w : World) (e : Ending) (w' : World) : Prop :=
  ∃ S B od, e = .returned (.slice (some ⟨S, 0, none⟩) n n) ∧ Own w' w.heap.size 3 1 ci (.slice (some ⟨S, 0, none⟩) n n) B ∧ Hid (Sk n l F s B od) ∧ Below w.heap.size w w'

set_option maxRecDepth 100000 in
set_option maxHeartbeats 8000000 in
theorem seek_any (n s : Nat) (A : Option Addr) (c : Nat) (l : List E) (A1 : Option Addr) (c1 : Nat) (F : List Int) (w : World) (hl : Sl w w.heap.size 3 ce A l) (hF : Sl w w.heap.size 1 ci A1 F) (hFl : F.length = l.length) (hg : NetLaw.Good n l) (hs : s < n) :
    Calls Try.prog 86 #[.agg #[.int .i64 n, .slice A l.length c], .slice A1 l.length c1, .int .i64 s] w fun e w' => SeekSays n l F s w e w' := by
  obtain ⟨i0, hi, hz0, hz1, hz2⟩ := info_parts infoIntF
  have hN := hg.hi
  have hlen := hg.len
  obtain ⟨L, hL⟩ : ∃ L, l.length = L := ⟨_, rfl⟩
  have hmk : ∀ w, (Instr.makeSlice 25 (.int .i64 (n : Int)) (.int .i64 (n : Int))).run Try.prog w = .ok (.slice (some ⟨w.heap.size, 0, none⟩) n n) (w.alloc (.cells (madeCells #[.int .i64 0] n) 3)) :=
    run_make_row' (P := Try.prog) 25 3 (.int .i64 0) 8 Try.underlying25 (by kernel_rfl) rfl .i64 .i64 n (by omega) (by omega)
  have hmb : ∀ w, (Instr.makeSlice 38 (.int .i64 (n : Int)) (.int .i64 (n : Int))).run Try.prog w = .ok (.slice (some ⟨w.heap.size, 0, none⟩) n n) (w.alloc (.cells (madeCells #[.bool false] n) 4)) :=
    run_make_row' (P := Try.prog) 38 4 (.bool false) 1 Try.underlying38 (by kernel_rfl) rfl .i64 .i64 n (by omega) (by omega)
  have own0 := own_madeI n w.heap.size (w.alloc (.cells #[.int .i64 n, .slice A L c] 24)) (by simp) (by omega) (by simp : _ = w.heap.size + 1)
  have box0 := blk_alloc (heap_alloc_new w (.cells #[.int .i64 n, .slice A L c] 24)) (.cells (madeCells #[.int .i64 0] n) 3)
  have bst := Bf.start n l F s hs
  rw [hL] at hFl bst hlen ⊢
  have BST := Lib.hid bst
  have HL := Lib.hid hL
  have HFL := Lib.hid hFl
  have OWN0 := Lib.hid own0
  have BOX0 := Lib.hid box0
  have HG := Lib.hid hg
  have HSL := Lib.hid hl
  have HSF := Lib.hid hF
  clear own0 box0 hg hl hF hL hFl bst
  go_enter Try.func86, Try.ntmps86
  go_wp2
  go_loopw [23] (fun i wr => ∃ k : Nat, k ≤ n ∧ i = .int .i64 k ∧ Hid (Own wr w.heap.size 3 1 ci (.slice (some ⟨w.heap.size + 1, 0, none⟩) n n) (List.replicate k (L : Int) ++ List.replicate (n - k) 0)) ∧ Hid (wr.heap[w.heap.size]? = some (.cells #[.int .i64 n, .slice A L c] 24 (0, 0))) ∧ Below w.heap.size w wr ∧ w.heap.size + 2 ≤ wr.heap.size) (fun i _ => n - (intOf i).toNat)
  case atStart => exact ⟨0, Nat.zero_le _, rfl, Lib.hid (by simpa using OWN0.out), BOX0, ((Below.refl _ _).alloc (Nat.le_refl _) _).alloc (by simp) _, by simp⟩
  case round =>
    obtain ⟨k, hk, rfl, OW, BX, hB, hz⟩ := hrel
    have hlen1 : (List.replicate k (L : Int) ++ List.replicate (n - k) (0 : Int)).length = n := by simp; omega
    clear OWN0 BOX0
    by_cases hlt : k < n
    · obtain ⟨pc, pf⟩ := own_at1 hlen1 OW.out hlt
      have HL1 := Lib.hid hlen1
      have hfs : (List.replicate k (L : Int) ++ List.replicate (n - k) (0 : Int)).set k (L : Int) = List.replicate (k + 1) (L : Int) ++ List.replicate (n - (k + 1)) 0 := by
        rw [List.set_append_right _ _ (by simp), List.length_replicate, Nat.sub_self, show n - k = (n - (k + 1)) + 1 by omega, List.replicate_succ, List.set_cons_zero, List.replicate_succ', List.append_assoc]
        rfl
      have HFS := Lib.hid hfs
      clear hlen1 hfs
      go_wp2
      go_roundw
      case rel => exact ⟨k + 1, by omega, by go_num, Lib.hid (by rw [← HFS.out]; exact own_set1 HL1.out OW.out k _), Lib.hid (blk_far BX.out (by dsimp only; omega) _), hB.setCell (by dsimp only; omega) _, by simpa [World.setCell] using hz⟩
      case measure => simp [intOf]; omega
    · obtain rfl : n = k := by omega
      have hown := OW.out
      rw [Nat.sub_self, List.replicate_zero, List.append_nil] at hown hlen1
      have b0 := blk_cell BX.out 0
      have b1 := blk_cell BX.out 1
      simp only [List.getElem?_toArray, List.getElem?_cons_zero, List.getElem?_cons_succ] at b0 b1
      have zw : w.heap.size < wr.heap.size := by omega
      obtain ⟨w2, rfl⟩ : ∃ w2 : World, w2 = wr := ⟨_, rfl⟩
      have ownS := own_madeB n w.heap.size w2 (by omega) (by omega) rfl
      have sk2 : SkM w (w2.alloc (.cells (madeCells #[.bool false] n) 4)) n A c L (w.heap.size + 1) w2.heap.size (w2.heap.size + 1) (List.replicate n (L : Int)) (List.replicate n false) :=
        ⟨hown.alloc _, ownS, blk_alloc BX.out _, hB.alloc (by omega) _, by omega, by omega, by omega, by simp, by simp, by simp⟩
      have sk3 := sk2.setS s hs true
      rw [World.setCell_alloc_new] at sk3
      obtain ⟨fc, ff⟩ := own_atG false sk2.sl sk2.seen hs
      have SK3 := Lib.hid sk3
      have hqz : (w2.alloc (.cells ((madeCells #[.bool false] n).setIfInBounds s (.bool true)) 4)).heap.size = w2.heap.size + 1 := by simp
      have HQZ := Lib.hid hqz
      clear ownS sk2 sk3 hown OW BX hlen1 hB hqz hlt
      go_wp2
      go_loopg [11] n (fun g s11 wr => ∃ (b off m c9 : Nat) (dn Q B : List Int) (Sn : List Bool), s11 = .slice (some ⟨b, off, none⟩) m c9 ∧ Hid (Qu wr (w2.heap.size + 1) b off m c9 Q) ∧ Hid (SkM w wr n A c L (w.heap.size + 1) w2.heap.size (w2.heap.size + 1) B Sn) ∧ Hid (Bf n l F s B Sn dn Q 0) ∧ n - dn.length ≤ g ∧ g ≤ n)
      case atStart => exact ⟨w2.heap.size + 1, 0, 1, 1, [], [(s : Int)], _, _, rfl, Lib.hid (Qu.new _ _ _ HQZ.out (Nat.le_refl _)), Lib.hid (SK3.out.alloc _), BST, by simp, Nat.le_refl _⟩
      case round =>
        obtain ⟨b, off, m, c9, dn, Q, B, Sn, rfl, QU, SK, BF, hg1, hg2⟩ := hrel
        clear SK3 BST HQZ fc ff b0 b1
        obtain ⟨w3, rfl⟩ : ∃ w3 : World, w3 = wr := ⟨_, rfl⟩
        have box := SK.out.box
        have p0 := blk_cell box 0
        have p1 := blk_cell box 1
        simp only [List.getElem?_toArray, List.getElem?_cons_zero, List.getElem?_cons_succ] at p0 p1
        have zw3 := lt_of_block box
        clear box
        by_cases hm : m = 0
        · subst hm
          have hQ : Q = [] := List.eq_nil_of_length_eq_zero QU.out.len
          subst hQ
          have hsk := BF.out.fin (by omega)
          rw [HL.out, Int.toNat_natCast] at hsk
          have sk2 := SK.out.setB s hs ((L : Int) + 1)
          obtain ⟨fc, ff⟩ := own_at1 SK.out.bl SK.out.by_ hs
          have wL : IntKind.i64.wrap ((L : Int) + 1) = (L : Int) + 1 := by simp [IntKind.wrap, IntKind.bits, IntKind.signed]; omega
          have HSK := Lib.hid hsk
          have SK2 := Lib.hid sk2
          clear hsk sk2 SK QU BF hg1 hg2
          go_wp2
          go_ret
          exact ⟨w.heap.size + 1, _, dn, rfl, SK2.out.by_, HSK, SK2.out.lo⟩
        · obtain ⟨m, rfl⟩ : ∃ m', m = m' + 1 := ⟨m - 1, by omega⟩
          obtain ⟨x, r, rfl⟩ : ∃ x r, Q = x :: r := by
            have := QU.out.len
            cases Q with
            | nil => simp at this
            | cons x r => exact ⟨x, r, rfl⟩
          have hhd := QU.out.head
          obtain ⟨x0, x1⟩ := BF.out.rng x (by simp)
          obtain ⟨x, rfl⟩ := Int.eq_ofNat_of_zero_le x0
          have hbl := QU.out.lt
          have hml := BF.out.len
          have hlq := QU.out.len
          rw [List.length_cons] at hml hlq
          have e0 : (0 : Int) < (m : Int) + 1 := by omega
          have zs10 : w2.heap.size < w3.heap.size := by have := SK.out.a4; omega
          clear hm x0
          go_wp2
          go_loopw [11, 50] (fun s11 i wr => ∃ (k b off m c9 : Nat) (Q B : List Int) (Sn : List Bool), k ≤ L ∧ i = .int .i64 k ∧ s11 = .slice (some ⟨b, off, none⟩) (m + 1) c9 ∧ Hid (Qu wr (w2.heap.size + 1) b off (m + 1) c9 Q) ∧ Hid (SkM w wr n A c L (w.heap.size + 1) w2.heap.size (w2.heap.size + 1) B Sn) ∧ Hid (Bf n l F s B Sn dn Q k) ∧ Hid (Q.head? = some (x : Int))) (fun _ i _ => L - (intOf i).toNat)
          case atStart => exact ⟨0, b, off, m, c9, _, B, Sn, Nat.zero_le _, rfl, rfl, QU, SK, BF, Lib.hid rfl⟩
          case round =>
            clear QU SK BF hhd p0 p1 hbl e0 hlq hml zs10 zw3
            obtain ⟨k, b, off, m, c9, Q, B, Sn, hk, rfl, rfl, QU, SK, BF, HD⟩ := hrel
            have hml := BF.out.len
            have hlq := QU.out.len
            by_cases hlt : k < L
            · have hL6 : L ≤ 600 := hlen
              have hkl : k < l.length := by rw [HL.out]; exact hlt
              obtain ⟨bE, oE, f, t, co, rfl, hbE, he, hcf, hct, hcc⟩ := (HSL.out.keep SK.out.lo (Nat.le_refl _)).atE hkl
              have hkF : k < F.length := by rw [HFL.out]; exact hlt
              obtain ⟨bF, oF, rfl, hbF, hcF⟩ := (HSF.out.keep SK.out.lo (Nat.le_refl _)).atI hkF
              have hfv : F[k] = fv F k := by rw [fv, List.getD_eq_getElem?_getD, List.getElem?_eq_getElem hkF]; rfl
              rw [hfv] at hcF
              obtain ⟨f0, f1, t0, t1⟩ := HG.out.ends _ (List.getElem_mem hkl)
              rw [he] at f0 f1 t0 t1
              simp only at f0 f1 t0 t1
              obtain ⟨f, rfl⟩ := Int.eq_ofNat_of_zero_le f0
              obtain ⟨t, rfl⟩ := Int.eq_ofNat_of_zero_le t0
              have hfn : f < n := by omega
              have htn : t < n := by omega
              have hed : ed l k = ((f : Int), (t : Int), co) := by rw [ed_at hkl, he]
              have hfr : fr l k = f := by rw [fr, hed]
              have hen : en l k = t := by rw [en, hed]
              have hcp : cpt l k = co := by rw [cpt, hed]
              have hsz := SK.out.lo.size
              have hq4 := SK.out.a4
              have rd0 : RdM w (wr.alloc (.cells #[.int .i64 f, .int .i64 t, .int .i64 co] 30)) n (some ⟨bE, oE, none⟩) c L (w.heap.size + 1) w2.heap.size (w2.heap.size + 1) wr.heap.size f t co b off (m + 1) c9 Q B Sn :=
                ⟨SK.out.alloc _, QU.out.alloc _, heap_alloc_new wr _, hq4, fun e => by have := QU.out.lt; omega⟩
              have sc : wr.cell? ⟨w2.heap.size, t, none⟩ = some (.bool (Sn.getD t false)) := (own_atG false SK.out.sl SK.out.seen htn).1
              have HFR := Lib.hid (And.intro hfr (And.intro hen hcp))
              have RD := Lib.hid rd0
              have HKL := Lib.hid hkl
              have zk : (k : Int) < (L : Int) := by omega
              have zt : (t : Int) < (n : Int) := by omega
              have zf : (f : Int) < (n : Int) := by omega
              have zt0 : (0 : Int) ≤ (t : Int) := by omega
              have zS : w2.heap.size < wr.heap.size := by omega
              have zF : bF < wr.heap.size := by omega
              have zE : bE < wr.heap.size := by omega
              obtain ⟨ge, hge⟩ : ∃ ge, ge = wr.heap.size := ⟨_, rfl⟩
              obtain ⟨y, hy⟩ : ∃ y, fv F k = y := ⟨_, rfl⟩
              obtain ⟨st, hst⟩ : ∃ st, Sn.getD t false = st := ⟨_, rfl⟩
              obtain ⟨p, hp⟩ : ∃ p, p = (decide (f = x) && (!st && decide (y < co))) := ⟨_, rfl⟩
              rw [hy] at hcF
              rw [hst] at sc
              have HY := Lib.hid hy
              have HST := Lib.hid hst
              have HP := Lib.hid hp
              have hcF' : (wr.alloc (.cells #[.int .i64 f, .int .i64 t, .int .i64 co] 30)).cell? ⟨bF, oF + k, none⟩ = some (.int .i64 y) := by simpa [go_sem, zF, Nat.ne_of_lt zF] using hcF
              have HCF := Lib.hid hcF
              clear rd0 hfr hen hcp hed he hkl hkF hfv f0 t0 f1 t1 hy hst hp hge hcF'
              go_upto_region 17 with fail
              go_cut [75] from 55 to 75 (fun s75 wx => s75 = .bool p ∧ Hid (RdM w wx n (some ⟨bE, oE, none⟩) c L (w.heap.size + 1) w2.heap.size (w2.heap.size + 1) wr.heap.size f t co b off (m + 1) c9 Q B Sn) ∧ Hid (Below wr.heap.size wr wx))
              case first =>
                have hpp := HP.out
                by_cases h1 : f = x
                · have d1 : ((f : Int) == (x : Int)) = true := by simp [h1]
                  cases st with
                  | true =>
                    have hp0 : p = false := by rw [hpp]; simp
                    have HP0 := Lib.hid hp0
                    clear h1 hpp hp0
                    go_quiet (fail)
                    go_wp2_with fail
                    go_meet
                    exact ⟨by rw [HP0.out], Lib.hid (RD.out.drewN _), Lib.hid (below_drewN ((Below.refl _ _).alloc (Nat.le_refl _) _) _)⟩
                  | false =>
                    by_cases h2 : y < co
                    · have d2 : decide (y < co) = true := decide_eq_true h2
                      have hp0 : p = true := by rw [hpp, d2]; simp [h1]
                      have HP0 := Lib.hid hp0
                      clear h1 hpp hp0
                      go_quiet (fail)
                      go_wp2_with fail
                      go_meet
                      exact ⟨by rw [HP0.out], Lib.hid (RD.out.drewN _), Lib.hid (below_drewN ((Below.refl _ _).alloc (Nat.le_refl _) _) _)⟩
                    · have d2 : decide (y < co) = false := decide_eq_false h2
                      have hp0 : p = false := by rw [hpp, d2]; simp
                      have HP0 := Lib.hid hp0
                      clear h1 hpp hp0
                      go_quiet (fail)
                      go_wp2_with fail
                      go_meet
                      exact ⟨by rw [HP0.out], Lib.hid (RD.out.drewN _), Lib.hid (below_drewN ((Below.refl _ _).alloc (Nat.le_refl _) _) _)⟩
                · have d1 : ((f : Int) == (x : Int)) = false := by rw [beq_eq_false_iff_ne]; omega
                  have hp0 : p = false := by rw [hpp]; simp [h1]
                  have HP0 := Lib.hid hp0
                  clear h1 hpp hp0
                  go_quiet (fail)
                  go_wp2_with fail
                  go_meet
                  exact ⟨by rw [HP0.out], Lib.hid (RD.out.drewN _), Lib.hid (below_drewN ((Below.refl _ _).alloc (Nat.le_refl _) _) _)⟩
              case rest =>
                obtain ⟨rfl, RD1, HB1⟩ := hcut
                obtain ⟨wy, rfl⟩ : ∃ wy : World, wy = wc := ⟨_, rfl⟩
                obtain ⟨hfr, hen, hcp⟩ := HFR.out
                have hin := BF.out.sn t (by omega) (by omega)
                rw [Int.toNat_natCast, HST.out] at hin
                have hpp := HP.out
                have hix : ix (k : Int) < l.length := by unfold ix; rw [if_pos (by omega), Int.toNat_natCast]; exact HKL.out
                have hvia : y < co → Via l F (k : Int) (t : Int) := fun h => ⟨hix, by rw [if_pos (by omega), Int.toNat_natCast]; exact hen, by unfold res; rw [if_pos (by omega), Int.toNat_natCast, hcp, HY.out]; omega⟩
                have hprv : prv l (k : Int) = f := by unfold prv; rw [if_pos (by omega), Int.toNat_natCast]; exact hfr
                clear RD QU sc zS zF zE HB1 hcF HCF
                cases p with
                | false =>
                  have H1 : Hid (fr l k = (x : Int) → fv F k < cpt l k → en l k ∈ dn ++ Q) := Lib.hid (fun e1 e2 => by
                    rw [hfr] at e1
                    rw [hcp, HY.out] at e2
                    have e3 : f = x := by omega
                    rw [hen]
                    cases st with
                    | true => exact of_decide_eq_true hin.symm
                    | false => rw [decide_eq_true e3, decide_eq_true e2] at hpp; cases hpp)
                  clear hin hpp hvia hprv hfr hen hcp hix HP
                  go_upto_region 20 with fail
                  obtain ⟨⟨g0, g1, g2⟩, ga, gb, gc, gd, ge1, ge2⟩ := RD1.out.cells
                  have sc2 : wy.cell? ⟨w2.heap.size, f, none⟩ = some (.bool (Sn.getD f false)) := (own_atG false RD1.out.sk.sl RD1.out.sk.seen hfn).1
                  have zF2 := (Sl.at1 (HSF.out.keep RD1.out.sk.lo (Nat.le_refl _)) (k := k) (by rw [HFL.out]; exact hlt)).1
                  have hcF2 : wy.cell? ⟨bF, oF + k, none⟩ = some (.int .i64 (fv F k)) := (Sl.at1 (HSF.out.keep RD1.out.sk.lo (Nat.le_refl _)) (k := k) (by rw [HFL.out]; exact hlt)).2
                  rw [HY.out] at hcF2
                  obtain ⟨st2, hst2⟩ : ∃ st2, Sn.getD f false = st2 := ⟨_, rfl⟩
                  rw [hst2] at sc2
                  obtain ⟨p2, hp2⟩ : ∃ p2, p2 = (decide (t = x) && (!st2 && decide (0 < y))) := ⟨_, rfl⟩
                  have HST2 := Lib.hid hst2
                  have HP2 := Lib.hid hp2
                  have RD1' := Lib.hid RD1.out
                  clear hst2 hp2 RD1
                  go_cut [108] from 90 to 108 (fun s108 wx => s108 = .bool p2 ∧ Hid (RdM w wx n (some ⟨bE, oE, none⟩) c L (w.heap.size + 1) w2.heap.size (w2.heap.size + 1) wr.heap.size f t co b off (m + 1) c9 Q B Sn))
                  case first =>
                    have hpp := HP2.out
                    by_cases h1 : t = x
                    · have d1 : ((t : Int) == (x : Int)) = true := by simp [h1]
                      cases st2 with
                      | true =>
                        have hp0 : p2 = false := by rw [hpp]; simp
                        have HP0 := Lib.hid hp0
                        clear h1 hpp hp0
                        go_wp2_with fail
                        go_meet
                        exact ⟨by rw [HP0.out], RD1'⟩
                      | false =>
                        by_cases h2 : 0 < y
                        · have d2 : decide (y > 0) = true := decide_eq_true h2
                          have d3 : decide (0 < y) = true := decide_eq_true h2
                          have hp0 : p2 = true := by rw [hpp, d3]; simp [h1]
                          have HP0 := Lib.hid hp0
                          clear h1 hpp hp0
                          go_wp2_with fail
                          go_meet
                          exact ⟨by rw [HP0.out], RD1'⟩
                        · have d2 : decide (y > 0) = false := decide_eq_false h2
                          have d3 : decide (0 < y) = false := decide_eq_false h2
                          have hp0 : p2 = false := by rw [hpp, d3]; simp
                          have HP0 := Lib.hid hp0
                          clear h1 hpp hp0
                          go_wp2_with fail
                          go_meet
                          exact ⟨by rw [HP0.out], RD1'⟩
                    · have d1 : ((t : Int) == (x : Int)) = false := by rw [beq_eq_false_iff_ne]; omega
                      have hp0 : p2 = false := by rw [hpp]; simp [h1]
                      have HP0 := Lib.hid hp0
                      clear h1 hpp hp0
                      go_wp2_with fail
                      go_meet
                      exact ⟨by rw [HP0.out], RD1'⟩
                  case rest =>
                    obtain ⟨rfl, RD5⟩ := hcut
                    obtain ⟨wv, rfl⟩ : ∃ wv : World, wv = wc := ⟨_, rfl⟩
                    obtain ⟨hfr, hen, hcp⟩ := HFR.out
                    have hin := BF.out.sn f (by omega) (by omega)
                    rw [Int.toNat_natCast, HST2.out] at hin
                    have hpp := HP2.out
                    clear RD1' sc2 zF2 hcF2 g0 g1 g2 ga gb gc gd ge1 ge2
                    cases p2 with
                    | false =>
                      have hcl : Cl l F (dn ++ Q) (x : Int) k := ⟨fun a b => H1.out a b, fun e1 e2 => by
                        rw [hen] at e1
                        rw [HY.out] at e2
                        have e3 : t = x := by omega
                        rw [hfr]
                        cases st2 with
                        | true => exact of_decide_eq_true hin.symm
                        | false => rw [decide_eq_true e3, decide_eq_true e2] at hpp; cases hpp⟩
                      have hnx := BF.out.next HD.out hcl
                      have BN := Lib.hid hnx
                      clear hin hpp hfr hen hcp hcl hnx BF H1 HP2 HST2
                      go_wp2
                      go_roundw
                      case rel => exact ⟨k + 1, b, off, m, c9, Q, B, Sn, by omega, by go_num, rfl, Lib.hid RD5.out.qu, Lib.hid RD5.out.sk, BN, HD⟩
                      case measure => simp [intOf]; omega
                    | true =>
                      have hx1 : t = x ∧ st2 = false ∧ 0 < y := by
                        rw [eq_comm, Bool.and_eq_true, Bool.and_eq_true] at hpp
                        exact ⟨of_decide_eq_true hpp.1, by simpa using hpp.2.1, of_decide_eq_true hpp.2.2⟩
                      obtain ⟨htx, hst0, hyc⟩ := hx1
                      have hk1 : (-1 - (-1 - (k : Int))).toNat = k := by omega
                      have hvia : Via l F (-1 - (k : Int)) (f : Int) := ⟨by unfold ix; rw [if_neg (by omega), hk1]; exact HKL.out, by rw [if_neg (by omega), hk1]; exact hfr, by unfold res; rw [if_neg (by omega), hk1, HY.out]; exact hyc⟩
                      have hprv : prv l (-1 - (k : Int)) = x := by unfold prv; rw [if_neg (by omega), hk1, hen, htx]
                      have hadd := BF.out.add (y := (f : Int)) (b := -1 - (k : Int)) (by omega) (by omega) (by rw [Int.toNat_natCast, HST2.out]; exact hst0) HD.out hvia hprv
                      rw [Int.toNat_natCast] at hadd
                      have hd2 := head_snoc (y := (f : Int)) HD.out
                      have hcl : Cl l F (dn ++ (Q ++ [(f : Int)])) (x : Int) k := ⟨fun a b => by
                        have := H1.out a b
                        rw [← List.append_assoc]
                        exact List.mem_append_left _ this, fun _ _ => by rw [hfr]; simp⟩
                      have hnx := hadd.next hd2 hcl
                      have BN := Lib.hid hnx
                      have HD2 := Lib.hid hd2
                      have wk : IntKind.i64.wrap (-1 - (k : Int)) = -1 - (k : Int) := by simp [IntKind.wrap, IntKind.bits, IntKind.signed]; omega
                      obtain ⟨⟨g0, g1, g2⟩, ga, gb, gc, gd, ge1, ge2⟩ := RD5.out.cells
                      obtain ⟨pc, pf⟩ := own_at1 RD5.out.sk.bl RD5.out.sk.by_ hfn
                      have sc2 : wv.cell? ⟨w2.heap.size, f, none⟩ = some (.bool (Sn.getD f false)) := (own_atG false RD5.out.sk.sl RD5.out.sk.seen hfn).1
                      have sf2 := (own_atG false RD5.out.sk.sl RD5.out.sk.seen hfn).2
                      have RD5' := Lib.hid RD5.out
                      clear hin hpp hfr hen hcp hcl hnx BF H1 HP2 HST2 hadd hd2 hvia hprv hk1 htx hst0 hyc HD RD5
                      go_upto_region 21 with fail
                      go_cut [111] from 109 to 118 (fun s111 wx => s111 = .int .i64 f ∧ Hid (RdM w wx n (some ⟨bE, oE, none⟩) c L (w.heap.size + 1) w2.heap.size (w2.heap.size + 1) wr.heap.size f t co b off (m + 1) c9 Q (B.set f (-1 - (k : Int))) (Sn.set f true)))
                      case first =>
                        go_region
                        all_goals
                          go_wp2_with fail
                          go_meet
                          first
                            | exact ⟨rfl, Lib.hid (((RD5'.out.setS f hfn true).setB f hfn (-1 - (k : Int))).drewN 1)⟩
                            | exact ⟨rfl, Lib.hid (((RD5'.out.setB f hfn (-1 - (k : Int))).setS f hfn true).drewN 1)⟩
                      case rest =>
                        obtain ⟨rfl, RD2⟩ := hcut
                        clear g0 g1 g2 ga gb gc gd ge1 ge2 pc pf sc2 sf2 RD5'
                        obtain ⟨wz, rfl⟩ : ∃ wz : World, wz = wc := ⟨_, rfl⟩
                        obtain ⟨⟨g0, g1, g2⟩, ga, _⟩ := RD2.out.cells
                        have QX := Lib.hid (RD2.out.qu.alloc (.cells #[.int .i64 f] 3))
                        have hnew : (wz.alloc (.cells #[.int .i64 f] 3)).cell? ⟨wz.heap.size, 0, none⟩ = some (.int .i64 f) := by simp [go_sem]
                        have HNEW := Lib.hid hnew
                        have hqz2 : w2.heap.size + 1 ≤ wz.heap.size := RD2.out.sk.a4
                        clear hnew
                        go_wp2_with (at_builtin; refine wpList_qpush _ rfl (.tmp 119) (.tmp 122) _ rfl i0 Try.underlying25 hi hz0 hz1 hz2 (w2.heap.size + 1) b off (m + 1) c9 Q rfl QX.out (by simp; omega) wz.heap.size 1 f rfl HNEW.out (by omega) ?_; intro b9 off9 c10 w9 hqu9 hpu9)
                        have rd6 := (RD2.out.alloc (.cells #[.int .i64 f] 3)).push hqu9 hpu9
                        have RD6 := Lib.hid rd6
                        clear rd6 hqu9 hpu9
                        go_roundw
                        case rel => exact ⟨k + 1, b9, off9, m + 1, c10, Q ++ [(f : Int)], B.set f (-1 - (k : Int)), Sn.set f true, by omega, by go_num, rfl, Lib.hid RD6.out.qu, Lib.hid RD6.out.sk, BN, HD2⟩
                        case measure => simp [intOf]; omega
                | true =>
                  have hx1 : f = x ∧ st = false ∧ y < co := by
                    rw [eq_comm, Bool.and_eq_true, Bool.and_eq_true] at hpp
                    exact ⟨of_decide_eq_true hpp.1, by simpa using hpp.2.1, of_decide_eq_true hpp.2.2⟩
                  obtain ⟨hfx, hst0, hyc⟩ := hx1
                  have hadd := BF.out.add (y := (t : Int)) (b := (k : Int)) (by omega) (by omega) (by rw [Int.toNat_natCast, HST.out]; exact hst0) HD.out (hvia hyc) (by rw [hprv, hfx])
                  rw [Int.toNat_natCast] at hadd
                  have hmem : en l k ∈ dn ++ (Q ++ [(t : Int)]) := by rw [hen]; simp
                  have BFa := Lib.hid hadd
                  have HMa := Lib.hid hmem
                  have HDa := Lib.hid (head_snoc (y := (t : Int)) HD.out)
                  have hmlA := hadd.len
                  rw [List.length_append, List.length_singleton] at hmlA
                  obtain ⟨⟨g0, g1, g2⟩, ga, gb, gc, gd, ge1, ge2⟩ := RD1.out.cells
                  obtain ⟨pc, pf⟩ := own_at1 RD1.out.sk.bl RD1.out.sk.by_ htn
                  have sc2 : wy.cell? ⟨w2.heap.size, t, none⟩ = some (.bool (Sn.getD t false)) := (own_atG false RD1.out.sk.sl RD1.out.sk.seen htn).1
                  have sf2 := (own_atG false RD1.out.sk.sl RD1.out.sk.seen htn).2
                  have RD1' := Lib.hid RD1.out
                  clear hin hpp hvia hprv hfr hen hcp hix hadd hmem BF SK HD hfx hst0 hyc HP HST RD1 hml
                  go_upto_region 18 with fail
                  go_cut [78] from 76 to 84 (fun s78 wx => s78 = .int .i64 t ∧ Hid (RdM w wx n (some ⟨bE, oE, none⟩) c L (w.heap.size + 1) w2.heap.size (w2.heap.size + 1) wr.heap.size f t co b off (m + 1) c9 Q (B.set t (k : Int)) (Sn.set t true)))
                  case first =>
                    go_region
                    all_goals
                      go_wp2_with fail
                      go_meet
                      first
                        | exact ⟨rfl, Lib.hid (((RD1'.out.setS t htn true).setB t htn (k : Int)).drewN 1)⟩
                        | exact ⟨rfl, Lib.hid (((RD1'.out.setB t htn (k : Int)).setS t htn true).drewN 1)⟩
                  case rest =>
                    obtain ⟨rfl, RD2⟩ := hcut
                    clear g0 g1 g2 ga gb gc gd ge1 ge2 pc pf sc2 sf2 RD1'
                    obtain ⟨wz, rfl⟩ : ∃ wz : World, wz = wc := ⟨_, rfl⟩
                    obtain ⟨⟨g0, g1, g2⟩, ga, _⟩ := RD2.out.cells
                    have QX := Lib.hid (RD2.out.qu.alloc (.cells #[.int .i64 t] 3))
                    have hnew : (wz.alloc (.cells #[.int .i64 t] 3)).cell? ⟨wz.heap.size, 0, none⟩ = some (.int .i64 t) := by simp [go_sem]
                    have HNEW := Lib.hid hnew
                    have hqz2 : w2.heap.size + 1 ≤ wz.heap.size := RD2.out.sk.a4
                    clear hnew
                    go_upto_region 20 with (at_builtin; refine wpList_qpush _ rfl (.tmp 85) (.tmp 88) _ rfl i0 Try.underlying25 hi hz0 hz1 hz2 (w2.heap.size + 1) b off (m + 1) c9 Q rfl QX.out (by simp; omega) wz.heap.size 1 t rfl HNEW.out (by omega) ?_; intro b8 off8 c8 w8 hqu8 hpu8)
                    have rd3 := (RD2.out.alloc (.cells #[.int .i64 t] 3)).push hqu8 hpu8
                    have RD1 := Lib.hid rd3
                    have H1 : Hid (fr l k = (x : Int) → fv F k < cpt l k → en l k ∈ dn ++ (Q ++ [(t : Int)])) := Lib.hid (fun _ _ => HMa.out)
                    clear rd3 hqu8 hpu8 QX HNEW RD2 g0 g1 g2 ga hqz2
                    have BF := BFa
                    have HD := HDa
                    have hml := hmlA
                    clear BFa HDa hmlA HMa
                    obtain ⟨wy, rfl⟩ : ∃ wy : World, wy = w8 := ⟨_, rfl⟩
                    obtain ⟨⟨g0, g1, g2⟩, ga, gb, gc, gd, ge1, ge2⟩ := RD1.out.cells
                    have sc2 : wy.cell? ⟨w2.heap.size, f, none⟩ = some (.bool ((Sn.set t true).getD f false)) := (own_atG false RD1.out.sk.sl RD1.out.sk.seen hfn).1
                    have zF2 := (Sl.at1 (HSF.out.keep RD1.out.sk.lo (Nat.le_refl _)) (k := k) (by rw [HFL.out]; exact hlt)).1
                    have hcF2 : wy.cell? ⟨bF, oF + k, none⟩ = some (.int .i64 (fv F k)) := (Sl.at1 (HSF.out.keep RD1.out.sk.lo (Nat.le_refl _)) (k := k) (by rw [HFL.out]; exact hlt)).2
                    rw [HY.out] at hcF2
                    obtain ⟨st2, hst2⟩ : ∃ st2, (Sn.set t true).getD f false = st2 := ⟨_, rfl⟩
                    rw [hst2] at sc2
                    obtain ⟨p2, hp2⟩ : ∃ p2, p2 = (decide (t = x) && (!st2 && decide (0 < y))) := ⟨_, rfl⟩
                    have HST2 := Lib.hid hst2
                    have HP2 := Lib.hid hp2
                    have RD1' := Lib.hid RD1.out
                    clear hst2 hp2 RD1
                    go_cut [108] from 90 to 108 (fun s108 wx => s108 = .bool p2 ∧ Hid (RdM w wx n (some ⟨bE, oE, none⟩) c L (w.heap.size + 1) w2.heap.size (w2.heap.size + 1) wr.heap.size f t co b8 off8 (m + 1 + 1) c8 (Q ++ [(t : Int)]) (B.set t (k : Int)) (Sn.set t true)))
                    case first =>
                      have hpp := HP2.out
                      by_cases h1 : t = x
                      · have d1 : ((t : Int) == (x : Int)) = true := by simp [h1]
                        cases st2 with
                        | true =>
                          have hp0 : p2 = false := by rw [hpp]; simp
                          have HP0 := Lib.hid hp0
                          clear h1 hpp hp0
                          go_wp2_with fail
                          go_meet
                          exact ⟨by rw [HP0.out], RD1'⟩
                        | false =>
                          by_cases h2 : 0 < y
                          · have d2 : decide (y > 0) = true := decide_eq_true h2
                            have d3 : decide (0 < y) = true := decide_eq_true h2
                            have hp0 : p2 = true := by rw [hpp, d3]; simp [h1]
                            have HP0 := Lib.hid hp0
                            clear h1 hpp hp0
                            go_wp2_with fail
                            go_meet
                            exact ⟨by rw [HP0.out], RD1'⟩
                          · have d2 : decide (y > 0) = false := decide_eq_false h2
                            have d3 : decide (0 < y) = false := decide_eq_false h2
                            have hp0 : p2 = false := by rw [hpp, d3]; simp
                            have HP0 := Lib.hid hp0
                            clear h1 hpp hp0
                            go_wp2_with fail
                            go_meet
                            exact ⟨by rw [HP0.out], RD1'⟩
                      · have d1 : ((t : Int) == (x : Int)) = false := by rw [beq_eq_false_iff_ne]; omega
                        have hp0 : p2 = false := by rw [hpp]; simp [h1]
                        have HP0 := Lib.hid hp0
                        clear h1 hpp hp0
                        go_wp2_with fail
                        go_meet
                        exact ⟨by rw [HP0.out], RD1'⟩
                    case rest =>
                      obtain ⟨rfl, RD5⟩ := hcut
                      obtain ⟨wv, rfl⟩ : ∃ wv : World, wv = wc := ⟨_, rfl⟩
                      obtain ⟨hfr, hen, hcp⟩ := HFR.out
                      have hin := BF.out.sn f (by omega) (by omega)
                      rw [Int.toNat_natCast, HST2.out] at hin
                      have hpp := HP2.out
                      clear RD1' sc2 zF2 hcF2 g0 g1 g2 ga gb gc gd ge1 ge2
                      cases p2 with
                      | false =>
                        have hcl : Cl l F (dn ++ (Q ++ [(t : Int)])) (x : Int) k := ⟨fun a b => H1.out a b, fun e1 e2 => by
                          rw [hen] at e1
                          rw [HY.out] at e2
                          have e3 : t = x := by omega
                          rw [hfr]
                          cases st2 with
                          | true => exact of_decide_eq_true hin.symm
                          | false => rw [decide_eq_true e3, decide_eq_true e2] at hpp; cases hpp⟩
                        have hnx := BF.out.next HD.out hcl
                        have BN := Lib.hid hnx
                        clear hin hpp hfr hen hcp hcl hnx BF H1 HP2 HST2
                        go_wp2
                        go_roundw
                        case rel => exact ⟨k + 1, b8, off8, m + 1, c8, (Q ++ [(t : Int)]), (B.set t (k : Int)), (Sn.set t true), by omega, by go_num, rfl, Lib.hid RD5.out.qu, Lib.hid RD5.out.sk, BN, HD⟩
                        case measure => simp [intOf]; omega
                      | true =>
                        have hx1 : t = x ∧ st2 = false ∧ 0 < y := by
                          rw [eq_comm, Bool.and_eq_true, Bool.and_eq_true] at hpp
                          exact ⟨of_decide_eq_true hpp.1, by simpa using hpp.2.1, of_decide_eq_true hpp.2.2⟩
                        obtain ⟨htx, hst0, hyc⟩ := hx1
                        have hk1 : (-1 - (-1 - (k : Int))).toNat = k := by omega
                        have hvia : Via l F (-1 - (k : Int)) (f : Int) := ⟨by unfold ix; rw [if_neg (by omega), hk1]; exact HKL.out, by rw [if_neg (by omega), hk1]; exact hfr, by unfold res; rw [if_neg (by omega), hk1, HY.out]; exact hyc⟩
                        have hprv : prv l (-1 - (k : Int)) = x := by unfold prv; rw [if_neg (by omega), hk1, hen, htx]
                        have hadd := BF.out.add (y := (f : Int)) (b := -1 - (k : Int)) (by omega) (by omega) (by rw [Int.toNat_natCast, HST2.out]; exact hst0) HD.out hvia hprv
                        rw [Int.toNat_natCast] at hadd
                        have hd2 := head_snoc (y := (f : Int)) HD.out
                        have hcl : Cl l F (dn ++ ((Q ++ [(t : Int)]) ++ [(f : Int)])) (x : Int) k := ⟨fun a b => by
                          have := H1.out a b
                          rw [← List.append_assoc]
                          exact List.mem_append_left _ this, fun _ _ => by rw [hfr]; simp⟩
                        have hnx := hadd.next hd2 hcl
                        have BN := Lib.hid hnx
                        have HD2 := Lib.hid hd2
                        have wk : IntKind.i64.wrap (-1 - (k : Int)) = -1 - (k : Int) := by simp [IntKind.wrap, IntKind.bits, IntKind.signed]; omega
                        obtain ⟨⟨g0, g1, g2⟩, ga, gb, gc, gd, ge1, ge2⟩ := RD5.out.cells
                        obtain ⟨pc, pf⟩ := own_at1 RD5.out.sk.bl RD5.out.sk.by_ hfn
                        have sc2 : wv.cell? ⟨w2.heap.size, f, none⟩ = some (.bool ((Sn.set t true).getD f false)) := (own_atG false RD5.out.sk.sl RD5.out.sk.seen hfn).1
                        have sf2 := (own_atG false RD5.out.sk.sl RD5.out.sk.seen hfn).2
                        have RD5' := Lib.hid RD5.out
                        clear hin hpp hfr hen hcp hcl hnx BF H1 HP2 HST2 hadd hd2 hvia hprv hk1 htx hst0 hyc HD RD5
                        go_upto_region 21 with fail
                        go_cut [111] from 109 to 118 (fun s111 wx => s111 = .int .i64 f ∧ Hid (RdM w wx n (some ⟨bE, oE, none⟩) c L (w.heap.size + 1) w2.heap.size (w2.heap.size + 1) wr.heap.size f t co b8 off8 (m + 1 + 1) c8 (Q ++ [(t : Int)]) ((B.set t (k : Int)).set f (-1 - (k : Int))) ((Sn.set t true).set f true)))
                        case first =>
                          go_region
                          all_goals
                            go_wp2_with fail
                            go_meet
                            first
                              | exact ⟨rfl, Lib.hid (((RD5'.out.setS f hfn true).setB f hfn (-1 - (k : Int))).drewN 1)⟩
                              | exact ⟨rfl, Lib.hid (((RD5'.out.setB f hfn (-1 - (k : Int))).setS f hfn true).drewN 1)⟩
                        case rest =>
                          obtain ⟨rfl, RD2⟩ := hcut
                          clear g0 g1 g2 ga gb gc gd ge1 ge2 pc pf sc2 sf2 RD5'
                          obtain ⟨wz, rfl⟩ : ∃ wz : World, wz = wc := ⟨_, rfl⟩
                          obtain ⟨⟨g0, g1, g2⟩, ga, _⟩ := RD2.out.cells
                          have QX := Lib.hid (RD2.out.qu.alloc (.cells #[.int .i64 f] 3))
                          have hnew : (wz.alloc (.cells #[.int .i64 f] 3)).cell? ⟨wz.heap.size, 0, none⟩ = some (.int .i64 f) := by simp [go_sem]
                          have HNEW := Lib.hid hnew
                          have hqz2 : w2.heap.size + 1 ≤ wz.heap.size := RD2.out.sk.a4
                          clear hnew
                          go_wp2_with (at_builtin; refine wpList_qpush _ rfl (.tmp 119) (.tmp 122) _ rfl i0 Try.underlying25 hi hz0 hz1 hz2 (w2.heap.size + 1) b8 off8 (m + 1 + 1) c8 (Q ++ [(t : Int)]) rfl QX.out (by simp; omega) wz.heap.size 1 f rfl HNEW.out (by omega) ?_; intro b9 off9 c10 w9 hqu9 hpu9)
                          have rd6 := (RD2.out.alloc (.cells #[.int .i64 f] 3)).push hqu9 hpu9
                          have RD6 := Lib.hid rd6
                          clear rd6 hqu9 hpu9
                          go_roundw
                          case rel => exact ⟨k + 1, b9, off9, m + 1 + 1, c10, (Q ++ [(t : Int)]) ++ [(f : Int)], (B.set t (k : Int)).set f (-1 - (k : Int)), (Sn.set t true).set f true, by omega, by go_num, rfl, Lib.hid RD6.out.qu, Lib.hid RD6.out.sk, BN, HD2⟩
                          case measure => simp [intOf]; omega
            · obtain rfl : L = k := by omega
              obtain ⟨y, r, rfl⟩ : ∃ y r, Q = y :: r := by
                cases Q with
                | nil => simp at hlq
                | cons y r => exact ⟨y, r, rfl⟩
              have hy : y = (x : Int) := by have := HD.out; simpa using this
              have hbf := BF.out
              rw [← HL.out] at hbf
              have hpop := hbf.pop
              have htl := QU.out.tail
              have hle := QU.out.le
              have HPOP := Lib.hid hpop
              have HTL := Lib.hid htl
              have e1 : (1 : Int) ≤ (m : Int) + 1 := by omega
              have e2 : (m : Int) + 1 ≤ (c9 : Int) := by omega
              have e3 : 1 ≤ c9 := by omega
              have e4 : (1 : Int) ≤ (c9 : Int) := by omega
              have hmes : n - (dn ++ [y]).length < n - dn.length := by rw [List.length_append, List.length_singleton]; rw [List.length_cons] at hml; omega
              have HMES := Lib.hid hmes
              clear QU BF hbf hpop htl hlt hy hle hmes
              by_cases hc1 : c9 = 1
              · have htl := HTL.out
                rw [if_pos hc1] at htl
                have HTL2 := Lib.hid htl
                have hc1' : (c9 = 1) = True := eq_true hc1
                clear htl HTL hc1
                go_wp2
                go_roundg (n - (dn ++ [y]).length)
                case measure => have := HMES.out; omega
                case rel => exact ⟨b, off, m, c9 - 1, dn ++ [y], r, B, Sn, by first | rfl | (congr 1; omega), HTL2, SK, HPOP, Nat.le_refl _, by omega⟩
              · have htl := HTL.out
                rw [if_neg hc1] at htl
                have HTL2 := Lib.hid htl
                clear htl HTL
                go_wp2
                go_roundg (n - (dn ++ [y]).length)
                case measure => have := HMES.out; omega
                case rel => exact ⟨b, off + 1, m, c9 - 1, dn ++ [y], r, B, Sn, by first | rfl | (congr 1; omega), HTL2, SK, HPOP, Nat.le_refl _, by omega⟩
end Go.Proofs.Ytjhnlkmdkjlkdaa.Flow
