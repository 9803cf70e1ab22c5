/- The walk of bell.Cycle. -/
import Derived.Test.YtlcgkbkmfelcfaaCycLaw
import Derived.Test.YtlcgkbkmfelcfaaBellWalks
import Derived.Test.YtlcgkbkmfelcfaaStdR
import Derived.Deep.RegionHeld3
import Derived.BigQuiet
namespace Go.Proofs.Ytlcgkbkmfelcfaa.CycWalk
open Go.RowKit Go.Proofs.Ytlcgkbkmfelcfaa NetLaw BellLaw BellCyc JohnPlain CycLaw Go.Proofs.Ytlcgkbkmfelcfaa.Net Go.Proofs.Ytlcgkbkmfelcfaa.Bell Go.Proofs.Ytlcgkbkmfelcfaa.Std
set_option linter.unusedSimpArgs false
set_option linter.unusedVariables false
/-- what Cycle answers -/
def CycSays (N : Int) (l : List E) (w : World) (e : Ending) (w' : World) : Prop :=
  (cerr N l ≠ 0 → e = .returned (.tuple #[.slice none 0 0, .int .i64 (cerr N l)])) ∧
  (cerr N l = 0 → ∃ A c v m, e = .returned (.tuple #[.slice A m c, .int .i64 0]) ∧ Own w' w.heap.size 3 1 ci (.slice A m c) (fw (hs N.toNat l).2.1 v m).reverse ∧ Cyc N.toNat l (hs N.toNat l).2.1 v m) ∧ Below w.heap.size w w'

set_option maxRecDepth 100000 in
set_option maxHeartbeats 4000000 in
theorem cycle_any (N : Int) (A : Option Addr) (c : Nat) (l : List E) (w : World) (hl : Sl w w.heap.size 3 ce A l) (hlen : l.length ≤ 9223372036854775807) :
    Calls Try.prog 31 #[.agg #[.int .i64 N, .slice A l.length c]] w fun e w' => CycSays N l w e w' := by
  obtain ⟨i0, hi, hz0, hz1, hz2⟩ := info_parts infoInt
  have key := fun W hs => check_any N A c l W hs hlen
  have hw0 : Below w.heap.size w (w.alloc (.cells #[.int .i64 N, .slice A l.length c] 24)) := (Below.refl _ _).alloc (Nat.le_refl _) _
  have hl0 := (hl.keep hw0 (Nat.le_refl _)).more (show w.heap.size ≤ (w.alloc (.cells #[.int .i64 N, .slice A l.length c] 24)).heap.size by simp)
  by_cases hg : chk N l = 0
  · rw [hg] at key
    have KEY := Lib.hid key
    clear key
    have hgood := chk_zero.1 hg
    have hN1 := hgood.lo
    have hN2 := hgood.hi
    obtain ⟨n, rfl⟩ := Int.eq_ofNat_of_zero_le (show 0 ≤ N by omega)
    have he : cerr n l = if 0 ≤ (hs n l).2.2 then 0 else 5 := by rw [cerr, if_neg (by simpa using hg)]; rfl
    have hcy : ∀ D P last, hs n l = (D, P, last) → 0 ≤ last → (last < n ∧ ∀ i, 0 ≤ it P i last ∧ it P i last < n) ∧ ∃ m, Cyc n l P (it P n last) m := fun D P last h h0 => by
      have h1 := cyc_at (l := l) (show 1 ≤ n by omega) hgood.ends (List.replicate n 0) (-1) (by simp) (by show 0 ≤ (hs n l).2.2; rw [h]; exact h0)
      rw [show relax l n (List.replicate n 0, List.replicate n (-1), -1) = hs n l from rfl, h] at h1
      exact h1
    have hmk : ∀ w, (Instr.makeSlice 25 (.int .i64 (n : Int)) (.int .i64 (n : Int))).run Try.prog w = .ok (.slice (some ⟨w.heap.size, 0, none⟩) n n) (w.alloc (.cells (madeCells #[.int .i64 0] n) 3)) :=
      run_make_row' (P := Try.prog) 25 3 (.int .i64 0) 8 Try.underlying25 (by kernel_rfl) rfl .i64 .i64 n (by omega) (by omega)
    have HE := Lib.hid he
    have HG := Lib.hid hgood
    have HCY := Lib.hid hcy
    clear he hg hgood hcy
    go_enter Try.func31, Try.ntmps31
    go_wp2_with fail
    refine (KEY.out _ hl0).mono ?_
    rintro e w1 ⟨rfl, hb1⟩
    have B1 : Below (w.heap.size + 1) _ w1 := hb1.mono (by simp)
    have H1 := hw0.trans (B1.mono (Nat.le_succ _))
    have Z1 : w.heap.size + 1 ≤ w1.heap.size := by have := hb1.size; simp at this; omega
    have hO := blk_below (heap_alloc_new w (.cells #[.int .i64 n, .slice A l.length c] 24)) B1 (Nat.lt_succ_self _)
    have q0 := blk_cell hO 0
    have q1 := blk_cell hO 1
    simp only [List.getElem?_toArray, List.getElem?_cons_zero, List.getElem?_cons_succ] at q0 q1
    have own0 := Grid.own_made n w1.heap.size w1 (Nat.le_refl _) (by omega) rfl
    have H2 : Below w.heap.size w (w1.alloc (.cells (madeCells #[.int .i64 0] n) 3)).drew := (H1.alloc (by omega) _).drew
    have hO2 : (w1.alloc (.cells (madeCells #[.int .i64 0] n) 3)).drew.heap[w.heap.size]? = some (.cells #[.int .i64 n, .slice A l.length c] 24 (0, 0)) := blk_alloc hO (.cells (madeCells #[.int .i64 0] n) 3)
    have kr := fun W (hW : W = (w1.alloc (.cells (madeCells #[.int .i64 0] n) 3)).drew) => relax_any n A c l w1.heap.size n (List.replicate n 0) W (by rw [hW]; simp [World.drew]) (by rw [hW]; exact (hl.keep H2 (Nat.le_refl _)).more (by omega)) (by rw [hW]; exact own0.drewN 1) (by simp) (by omega) (by omega) HG.out.len HG.out.ends HG.out.cost (fun v hv => by rw [List.getD_eq_getElem?_getD, List.getElem?_replicate, if_pos hv]; decide)
    have hsz : (w1.alloc (.cells (madeCells #[.int .i64 0] n) 3)).drew.heap.size = w1.heap.size + 1 := by show (w1.alloc _).heap.size = _; simp
    have HSZ := Lib.hid hsz
    have KR := Lib.hid kr
    clear hsz
    have HH2 := Lib.hid H2
    have HO2 := Lib.hid hO2
    have z1 : w.heap.size < w1.heap.size := by omega
    clear kr own0 hl H2 H1 B1 hb1 hl0 hO hO2
    go_upto_region 4 with fail
    go_cut [5, 6] from 14 to 22 (fun s5 s6 wx => ∃ D P last PB, s5 = .slice (some ⟨PB, 0, none⟩) n n ∧ s6 = .int .i64 last ∧ Hid (hs n l = (D, P, last)) ∧ Hid (Own wx w1.heap.size 3 1 ci (.slice (some ⟨PB, 0, none⟩) n n) P ∧ P.length = n ∧ Below w.heap.size w wx ∧ wx.heap[w.heap.size]? = some (.cells #[.int .i64 n, .slice A l.length c] 24 (0, 0))))
    case first =>
      go_region_held3 (fun w' => w'.cell? ⟨w.heap.size, 0, none⟩ = some (.int .i64 n) ∧ w'.cell? ⟨w.heap.size, 1, none⟩ = some (.slice A l.length c))
        (first | go_keep | exact ⟨p0, p1⟩)
        (first
          | (go_at_call 58; refine (KR.out _ rfl).mono ?_; rintro e w3 ⟨D, P, last, hre, rfl, hrl⟩; have hO3 := blk_below HO2.out hrl.lo (by omega); have p0 := blk_cell hO3 0; have p1 := blk_cell hO3 1; simp only [List.getElem?_toArray, List.getElem?_cons_zero, List.getElem?_cons_succ] at p0 p1; have HRE := Lib.hid hre; have HRL := Lib.hid hrl; have HO3 := Lib.hid hO3; clear hre hrl hO3))
      go_wp2_with fail
      go_meet
      have hp3 := HRL.out.p
      rw [HSZ.out] at hp3
      exact ⟨D, P, last, _, rfl, rfl, HRE, Lib.hid ⟨Own.mono (base' := w1.heap.size) hp3 (by omega), HRL.out.pl, HH2.out.trans (HRL.out.lo.mono (show w.heap.size ≤ w1.heap.size by omega)), HO3.out⟩⟩
    case rest =>
      obtain ⟨D, P, last, PB, rfl, rfl, HRE, HR⟩ := hcut
      have hfin := HE.out
      rw [HRE.out] at hfin
      obtain ⟨hown, hpl, hB, hO⟩ := HR.out
      have q0' := blk_cell hO 0
      have q1' := blk_cell hO 1
      simp only [List.getElem?_toArray, List.getElem?_cons_zero, List.getElem?_cons_succ] at q0' q1'
      have zc : w.heap.size < wc.heap.size := lt_of_block hO
      clear q0 q1 KR HE hO HR KEY HH2 HO2
      by_cases hneg : 0 ≤ last
      · rw [if_pos hneg] at hfin
        obtain ⟨⟨hl1, hit⟩, m, hcy⟩ := HCY.out D P last HRE.out hneg
        have hcy0 := hcy.rng 0
        have hd : decide (last < 0) = false := decide_eq_false (by omega)
        have HF := Lib.hid hfin
        have OWN := Lib.hid hown
        have HPL := Lib.hid hpl
        have HB := Lib.hid hB
        have HIT := Lib.hid hit
        have CY := Lib.hid hcy
        have hPz := hown.base_ PB rfl
        obtain ⟨hP0, hP1⟩ := hPz
        clear hfin hown hpl hB hit hcy hcy0 HCY
        obtain ⟨w3, rfl⟩ : ∃ w3 : World, w3 = wc := ⟨_, rfl⟩
        go_wp2
        go_loopw [6, 26] (fun s6 i wr => ∃ k : Nat, k ≤ n ∧ i = .int .i64 k ∧ s6 = .int .i64 (it P k last) ∧ w3 = wr) (fun _ i _ => n - (intOf i).toNat)
        case atStart => exact ⟨0, Nat.zero_le _, rfl, rfl, rfl⟩
        case round =>
          obtain ⟨k, hk, rfl, rfl, rfl⟩ := hrel
          by_cases hlt : k < n
          · obtain ⟨i1, i2⟩ := HIT.out k
            obtain ⟨u, hu⟩ := Int.eq_ofNat_of_zero_le i1
            have hun : u < n := by omega
            obtain ⟨pc, _⟩ := own_at1 HPL.out OWN.out hun
            have hnx : it P (k + 1) last = P.getD u 0 := by show dg P (it P k last) = _; rw [hu, dg, Int.toNat_natCast]
            rw [← hnx] at pc
            rw [hu]
            obtain ⟨y, hy⟩ : ∃ y, it P (k + 1) last = y := ⟨_, rfl⟩
            rw [hy] at pc
            have HY := Lib.hid hy
            clear hnx hu i1 i2 hy
            go_wp2
            go_roundw
            case rel => exact ⟨k + 1, by omega, by go_num, by rw [HY.out], by trivial⟩
            case measure => simp [intOf]; omega
          · obtain rfl : n = k := by omega
            obtain ⟨v, hv⟩ : ∃ v, it P n last = v := ⟨_, rfl⟩
            have hcy := CY.out
            rw [hv] at hcy ⊢
            have hrng := hcy.rng
            have CY2 := Lib.hid hcy
            clear hcy CY hv HIT
            obtain ⟨v0, v1⟩ : 0 ≤ v ∧ v < n := hrng 0
            obtain ⟨u, rfl⟩ := Int.eq_ofNat_of_zero_le v0
            have hun : u < n := by omega
            obtain ⟨pc, _⟩ := own_at1 HPL.out OWN.out hun
            have hnx : it P 1 (u : Int) = P.getD u 0 := by show dg P (u : Int) = _; rw [dg, Int.toNat_natCast]
            rw [← hnx] at pc
            obtain ⟨y, hy⟩ : ∃ y, it P 1 (u : Int) = y := ⟨_, rfl⟩
            rw [hy] at pc
            have HY := Lib.hid hy
            have HRNG := Lib.hid hrng
            have own1 := own_new' (cell := ci) (sz := 1) w3 #[.int .i64 (u : Int)] 3 (l := [(u : Int)]) (g := w3.heap.size) (n := 1) (base := w3.heap.size) rfl rfl (Nat.le_refl _) (by decide) rfl
            have OWN1 := Lib.hid own1
            have hm1 : 1 ≤ m := CY2.out.pos
            have hmn : m ≤ n := CY2.out.le
            clear hnx hy hrng own1 v0 v1 hlt
            go_wp2
            go_loopg [7, 8] m (fun g s7 s8 wr => ∃ (j : Nat) (A9 : Option Addr) (c9 : Nat), 1 ≤ j ∧ j ≤ m ∧ m - j ≤ g ∧ g ≤ m ∧ s7 = .slice A9 j c9 ∧ s8 = .int .i64 (it P j (u : Int)) ∧ Hid (Own wr w3.heap.size 3 1 ci (.slice A9 j c9) (fw P (u : Int) j)) ∧ Below w3.heap.size w3 wr)
            case atStart => exact ⟨1, some ⟨w3.heap.size, 0, none⟩, 1, Nat.le_refl _, hm1, by omega, Nat.le_refl _, rfl, by rw [HY.out], OWN1, (Below.refl _ _).alloc (Nat.le_refl _) _⟩
            case round =>
              obtain ⟨j, A9, c9, hj1, hjm, hg1, hg2, rfl, rfl, OW, hB9⟩ := hrel
              clear OWN1 pc HY
              have hz9 := hB9.size
              by_cases hlt : j < m
              · have hne := CY2.out.first j (by omega) hlt
                obtain ⟨i1, i2⟩ := HRNG.out j
                obtain ⟨x, hx⟩ := Int.eq_ofNat_of_zero_le i1
                have hxn : x < n := by omega
                obtain ⟨pc, _⟩ := own_at1 HPL.out (OWN.out.keep hB9) hxn
                have hnx : it P (j + 1) (u : Int) = P.getD x 0 := by show dg P (it P j u) = _; rw [hx, dg, Int.toNat_natCast]
                rw [← hnx] at pc
                have hfs := fw_succ P (u : Int) j
                rw [hx] at hne hfs ⊢
                have d1 : ((x : Int) != (u : Int)) = true := by rw [bne_iff_ne]; exact hne
                obtain ⟨y, hy⟩ : ∃ y, it P (j + 1) (u : Int) = y := ⟨_, rfl⟩
                rw [hy] at pc
                have HY := Lib.hid hy
                have HFS := Lib.hid hfs
                have HFL := Lib.hid (fw_len P (u : Int) j)
                have HPC := Lib.hid pc
                have n1 := news1 (w := wr) (e := 3) (x := (x : Int))
                have HN1 := Lib.hid n1
                have hPBr : PB < wr.heap.size := by omega
                have OWA := Lib.hid (OW.out.alloc (.cells #[.int .i64 (x : Int)] 3))
                clear hnx hx hne i1 i2 hy hfs pc n1 OW
                go_wp2_with (at_builtin; refine wpList_push _ rfl (.tmp 46) (.tmp 48) _ rfl w3.heap.size 3 i0 (.int .i64 0) 1 8 ci Try.underlying25 hi hz0 hz1 hz2 rfl (by decide) _ (fw P (u : Int) j) j HFL.out rfl OWA.out wr.heap.size 1 (x : Int) rfl HN1.out (fun _ _ => one_ci _ _) (by omega) (by omega) (by simp; omega) ?_; intro A8 c8 w8 hown8 hgrow8 hat8; have hb8 : Below w3.heap.size w3 w8 := (hB9.alloc (by omega) (.cells #[.int .i64 (x : Int)] 3)).grown hgrow8 (by simp; omega) OWA.out.lo; have pc8 := (hb8.cell (p := ⟨PB, x, none⟩) (by dsimp only; omega)).trans ((hB9.cell (p := ⟨PB, x, none⟩) (by dsimp only; omega)).symm.trans HPC.out); rw [← HFS.out] at hown8; have HO8 := Lib.hid hown8; clear hown8 hgrow8 hat8)
                go_roundg (m - (j + 1))
                case measure => omega
                case rel => exact ⟨j + 1, A8, c8, by omega, by omega, Nat.le_refl _, by omega, rfl, by rw [HY.out], HO8, hb8⟩
              · obtain rfl : j = m := by omega
                have hbk := CY2.out.back
                rw [hbk]
                have d1 : ((u : Int) != (u : Int)) = false := by simp
                have krv := reverse_int w3.heap.size A9 j c9 (fw P (u : Int) j) wr (fw_len _ _ _) OW.out (by omega)
                have KRV := Lib.hid krv
                have hlo := OW.out.lo
                have HLO := Lib.hid hlo
                clear hbk krv OW hlo
                go_wp2_with fail
                refine KRV.out.mono ?_
                rintro e w8 ⟨rfl, hown8, hgrow8⟩
                have hb8 := hB9.grown hgrow8 hz9 HLO.out
                have HB8 := Lib.hid (HB.out.trans (hb8.mono (by have := HB.out.size; omega)))
                have HO8 := Lib.hid (hown8.mono (show w.heap.size ≤ w3.heap.size by have := HB.out.size; omega))
                clear hown8 hgrow8 hb8
                go_wp2
                go_ret2
                simp only [CycSays, HF.out, Int.toNat_natCast, HRE.out]
                exact ⟨fun h => absurd rfl h, fun _ => ⟨A9, c9, u, j, rfl, HO8.out, CY2.out⟩, HB8.out⟩
      · rw [if_neg hneg] at hfin
        have hd : decide (last < 0) = true := decide_eq_true (by omega)
        have HF := Lib.hid hfin
        clear hfin hown hpl
        go_wp2
        go_ret2
        simp only [CycSays, HF.out]
        exact ⟨fun _ => by first | rfl | simp, fun h => absurd h (by decide), hB⟩
  · have he : cerr N l = chk N l := by rw [cerr, if_pos hg]
    simp only [CycSays, he]
    have KEY := Lib.hid key
    clear key he
    have hne : (chk N l != 0) = true := by rw [bne_iff_ne]; exact hg
    generalize chk N l = x at *
    go_enter Try.func31, Try.ntmps31
    go_wp2_with fail
    refine (KEY.out _ hl0).mono ?_
    rintro e w1 ⟨rfl, hb1⟩
    have H1 := hw0.trans (hb1.mono (by simp))
    clear hl hl0 hb1
    go_wp2
    go_ret2
    exact ⟨fun _ => rfl, fun h => absurd h hg, H1⟩
end Go.Proofs.Ytlcgkbkmfelcfaa.CycWalk
