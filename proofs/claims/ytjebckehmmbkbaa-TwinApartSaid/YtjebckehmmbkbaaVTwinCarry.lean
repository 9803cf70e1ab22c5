/- The walk of twin.carry. -/
import Derived.Test.YtjebckehmmbkbaaVTwinFolMem
import Derived.Test.YtjebckehmmbkbaaVBellSh
import Derived.Deep.CutRange
import Derived.Deep.LoopGhost
import Derived.IntWalk
namespace Go.Proofs.Ytjebckehmmbkbaa.Twin
open Go.RowKit Go.Proofs.Ytjebckehmmbkbaa NetLaw BellLaw FlowLaw TwinLaw Go.Proofs.Ytjebckehmmbkbaa.Net Go.Proofs.Ytjebckehmmbkbaa.Std
open Go.Proofs.Ytjebckehmmbkbaa.Flow (cb own_setG own_atG own_madeI own_madeB)
set_option linter.unusedSimpArgs false
set_option linter.unusedVariables false
theorem infoArc : (Try.prog.info? 72).map (fun i => (i.zero, i.size, i.bytes)) = some (some (.agg #[.int .i64 0, .int .i64 0, .int .i64 0, .int .i64 0]), 4, 32) := by kernel_rfl
/-- what carry answers -/
def CarrySays (w0 : World) (n : Nat) (l : List E) (U : Nat) (s t : Int) (π : Int → Int) (u : List Bool) (e : Ending) (w' : World) : Prop :=
  ∃ D P, TB n l u s π D P ∧ Fin l u D ∧
    ((dg D t = far ∧ e = .returned (.bool false) ∧ UM w0 w' U l.length u) ∨ (dg D t < far ∧ ∃ ks, Chn l u P s t ks ∧ e = .returned (.bool true) ∧ UM w0 w' U l.length (flips u ks)))
theorem arl_snoc {l : List E} {u : List Bool} {k : Nat} (h : k < l.length) : (arl l u).take (k + 1) = (arl l u).take k ++ [(af l u k, at_ l u k, ac l u k, (k : Int))] := by
  have h' : k < (arl l u).length := by rw [arl_len]; exact h
  rw [List.take_succ_eq_append_getElem h', arl_get]
theorem ca_made {w0 w : World} {b1 n m U ma ca : Nat} {Aa : Option Addr} {u : List Bool} {ar : List A4} (hu : UM w0 w U m u) (ha : Own w b1 72 4 c4 (.slice Aa ma ca) ar) (hl : ar.length = ma) (hb : w0.heap.size ≤ b1) (hb1 : b1 ≤ w.heap.size) (hn : n ≤ 64) :
    CA w0 ((w.alloc (.cells (madeCells #[.int .i64 0] n) 3)).alloc (.cells (madeCells #[.int .i64 0] n) 3)) b1 n m U w.heap.size (w.heap.size + 1) Aa ma ca u ar (List.replicate n 0) (List.replicate n 0) ∧ CA w0 ((w.alloc (.cells (madeCells #[.int .i64 0] n) 3)).alloc (.cells (madeCells #[.int .i64 0] n) 3)) b1 n m U (w.heap.size + 1) w.heap.size Aa ma ca u ar (List.replicate n 0) (List.replicate n 0) := by
  have h1 := (own_madeI n b1 w hb1 (by omega) rfl).alloc (.cells (madeCells #[.int .i64 0] n) 3)
  have h2 := own_madeI n b1 (w.alloc (.cells (madeCells #[.int .i64 0] n) 3)) (by simp; omega) (by omega) (g := w.heap.size + 1) (by simp)
  have hk : Below w.heap.size w ((w.alloc (.cells (madeCells #[.int .i64 0] n) 3)).alloc (.cells (madeCells #[.int .i64 0] n) 3)) := ((Below.refl _ _).alloc (Nat.le_refl _) _).alloc (by simp) _
  exact ⟨⟨hu.keep hk, ha.keep hk, hl, h1, h2, by simp, by simp, by omega, hb⟩, ⟨hu.keep hk, ha.keep hk, hl, h2, h1, by simp, by simp, by omega, hb⟩⟩
set_option maxRecDepth 100000 in
set_option maxHeartbeats 16000000 in
theorem carry_any (w0 : World) (n : Nat) (A : Option Addr) (c : Nat) (l : List E) (U : Nat) (s t : Nat) (π : Int → Int) (u : List Bool) (w : World) (hl : Sl w0 w0.heap.size 3 ce A l) (h0 : Hp0 n l u s π) (hl6 : l.length ≤ 600) (ht : t < n) (hst : s ≠ t) (hum : UM w0 w U l.length u) :
    Calls Try.prog 12 #[.agg #[.int .i64 n, .slice A l.length c], .slice (some ⟨U, 0, none⟩) l.length l.length, .int .i64 s, .int .i64 t] w fun e w' => CarrySays w0 n l U s t π u e w' := by
  obtain ⟨i0, hi, hzi0, hzi1, hzi2⟩ := info_parts infoArc
  have hn64 := h0.n64
  have hs1 := h0.s1
  have hsn : s < n := by omega
  have hw1 : Below w.heap.size w (w.alloc (.cells #[.int .i64 n, .slice A l.length c] 24)) := (Below.refl _ _).alloc (Nat.le_refl _) _
  have hum1 := hum.keep hw1
  have hbx1 := heap_alloc_new w (.cells #[.int .i64 n, .slice A l.length c] 24)
  obtain ⟨b1, hb1⟩ : ∃ b1, b1 = w.heap.size + 1 := ⟨_, rfl⟩
  have hb0 : w0.heap.size ≤ b1 := by have := hum.lo.size; omega
  have hUb : U < w.heap.size := (hum.own.base_ U rfl).2
  have UM1 := Lib.hid hum1
  have BX1 := Lib.hid hbx1
  have HL := Lib.hid hl
  have H0 := Lib.hid h0
  have hmk : ∀ w, (Instr.makeSlice 29 (.int .i64 (n : Int)) (.int .i64 (n : Int))).run Try.prog w = .ok (.slice (some ⟨w.heap.size, 0, none⟩) n n) (w.alloc (.cells (madeCells #[.int .i64 0] n) 3)) :=
    run_make_row' (P := Try.prog) 29 3 (.int .i64 0) 8 Try.underlying29 (by kernel_rfl) rfl .i64 .i64 n (by omega) (by omega)
  have HMK := Lib.hid hmk
  clear hum hum1 hbx1 hl h0 hw1 hmk
  go_enter Try.func12, Try.ntmps12
  go_upto_region 2 with fail
  have um1 := UM1.out
  have bx1 := BX1.out
  have zb := lt_of_block bx1
  have q0 := blk_cell bx1 0
  have q1 := blk_cell bx1 1
  simp only [List.getElem?_toArray, List.getElem?_cons_zero, List.getElem?_cons_succ] at q0 q1
  have hsz1 : (w.alloc (.cells #[.int .i64 n, .slice A l.length c] 24)).heap.size = b1 := by rw [hb1]; simp
  have HSZ1 := Lib.hid hsz1
  obtain ⟨gX, hgX⟩ : ∃ gX, gX = w.heap.size := ⟨_, rfl⟩
  rw [← hgX] at BX1 bx1 q0 q1 zb hb1 hUb ⊢
  generalize w.alloc (.cells #[.int .i64 n, .slice A l.length c] 24) = w1 at *
  clear um1 bx1 hsz1 hgX
  go_upto_region 3 with fail
  go_loopw [9, 23] (fun s9 s23 wy => ∃ (k : Nat) (Aa : Option Addr) (ma ca : Nat), k ≤ l.length ∧ s23 = .int .i64 k ∧ s9 = .slice Aa ma ca ∧ ma = k ∧ Own wy b1 72 4 c4 (.slice Aa ma ca) ((arl l u).take k) ∧ Hid (Below w1.heap.size w1 wy)) (fun _ i _ => l.length - (intOf i).toNat)
  case atStart => exact ⟨0, none, 0, 0, Nat.zero_le _, rfl, rfl, rfl, Own.nil_, Lib.hid (Below.refl _ _)⟩
  case round =>
    clear q0 q1 zb
    obtain ⟨k, Aa, ma, ca, hk, rfl, rfl, rfl, hown, HB⟩ := hrel
    have um := UM1.out.keep HB.out
    have bx := blk_below BX1.out HB.out (lt_of_block BX1.out)
    have q0 := blk_cell bx 0
    have q1 := blk_cell bx 1
    simp only [List.getElem?_toArray, List.getElem?_cons_zero, List.getElem?_cons_succ] at q0 q1
    have zb := lt_of_block bx
    by_cases hlt : ma < l.length
    · obtain ⟨b, off, f, t', co, rfl, hbB, he, hcf, hct, hcc⟩ := (HL.out.keep um.lo (Nat.le_refl _)).atE hlt
      have hcst := H0.out.cost _ (List.getElem_mem hlt)
      have hed : fr l ma = f ∧ en l ma = t' ∧ cpt l ma = co := by unfold fr en cpt; rw [ed_at hlt, he]; exact ⟨rfl, rfl, rfl⟩
      rw [he] at hcst
      simp only at hcst
      obtain ⟨u0, u1⟩ := um.at1 hlt
      have hbw : b < wr.heap.size := by have := um.lo.size; omega
      have hUw := (um.own.base_ U rfl).2
      have hed1 : Below wr.heap.size wr (wr.alloc (.cells #[.int .i64 f, .int .i64 t', .int .i64 co] 48)) := (Below.refl _ _).alloc (Nat.le_refl _) _
      have EDG := Lib.hid (heap_alloc_new wr (.cells #[.int .i64 f, .int .i64 t', .int .i64 co] 48))
      have UM2 := Lib.hid (um.keep hed1)
      have HB2 := Lib.hid (HB.out.trans (hed1.mono HB.out.size))
      have OWN2 := Lib.hid (hown.keep hed1)
      have HED := Lib.hid hed
      have hbsz : b1 ≤ (wr.alloc (.cells #[.int .i64 f, .int .i64 t', .int .i64 co] 48)).heap.size := by have := HB.out.size; have := HSZ1.out; simp; omega
      have hmk3 : (ma : Int) < (l.length : Int) := by omega
      clear um bx hown hed hed1 he q0 q1
      go_upto_region 5 with fail
      obtain ⟨gE, hgE⟩ : ∃ gE, gE = wr.heap.size := ⟨_, rfl⟩
      rw [← hgE] at EDG ⊢
      generalize wr.alloc (.cells #[.int .i64 f, .int .i64 t', .int .i64 co] 48) = w2 at EDG UM2 HB2 OWN2 hbsz ⊢
      have e0 := blk_cell EDG.out 0
      have e1 := blk_cell EDG.out 1
      have e2 := blk_cell EDG.out 2
      simp only [List.getElem?_toArray, List.getElem?_cons_zero, List.getElem?_cons_succ] at e0 e1 e2
      obtain ⟨u0, u1⟩ := UM2.out.at1 hlt
      have zE := lt_of_block EDG.out
      have zU := (UM2.out.own.base_ U rfl).2
      have HLN := Lib.hid (show ((arl l u).take ma).length = ma by rw [List.length_take, arl_len]; omega)
      have HSN := Lib.hid (arl_snoc (u := u) hlt)
      obtain ⟨hc1, hc2⟩ := hcst
      clear hgE hcf hct hcc hbw hUw
      cases hb : ub u ma with
      | true =>
        rw [hb] at u0
        have HE4 := Lib.hid (show (af l u ma, at_ l u ma, ac l u ma, (ma : Int)) = (t', f, -co, (ma : Int)) by unfold af at_ ac; rw [hb, HED.out.1, HED.out.2.1, HED.out.2.2]; rfl)
        clear hb
        go_upto_region 8 with (at_builtin; go_must (refine wpList_push _ rfl (.tmp 32) (.tmp 42) _ rfl b1 72 i0 (.agg #[.int .i64 0, .int .i64 0, .int .i64 0, .int .i64 0]) 4 32 c4 Try.underlying70 hi hzi0 hzi1 hzi2 rfl (by decide) _ ((arl l u).take ma) ma HLN.out rfl (OWN2.out.alloc _) w2.heap.size 1 (t', f, -co, (ma : Int)) rfl (news4 rfl) (fun _ _ => one_c4 _ _) (by omega) (by omega) (by simp; omega) ?_; intro A7 c7 w7 hown7 hgrow7 hat7))
        have HBX := Lib.hid ((HB2.out.alloc HB2.out.size (.cells #[.int .i64 t', .int .i64 f, .int .i64 (-co), .int .i64 ma] 72)).grown hgrow7 (by simp; have := HB2.out.size; omega) (fun g hg => by have := ((OWN2.out.alloc (.cells #[.int .i64 t', .int .i64 f, .int .i64 (-co), .int .i64 ma] 72)).base_ g hg).1; have := HSZ1.out; omega))
        rw [← HE4.out, ← HSN.out] at hown7
        have OWN7 := Lib.hid hown7
        clear hown7 hgrow7 hat7 e0 e1 e2 u0 u1 HSN HE4
        go_wp2
        go_roundw
        case' rel => exact ⟨ma + 1, A7, ma + 1, c7, by omega, by go_num, rfl, rfl, OWN7.out, HBX⟩
        case' measure => simp [intOf]; omega
      | false =>
        rw [hb] at u0
        have HE4 := Lib.hid (show (af l u ma, at_ l u ma, ac l u ma, (ma : Int)) = (f, t', co, (ma : Int)) by unfold af at_ ac; rw [hb, HED.out.1, HED.out.2.1, HED.out.2.2]; rfl)
        clear hb
        go_upto_region 8 with (at_builtin; go_must (refine wpList_push _ rfl (.tmp 44) (.tmp 53) _ rfl b1 72 i0 (.agg #[.int .i64 0, .int .i64 0, .int .i64 0, .int .i64 0]) 4 32 c4 Try.underlying70 hi hzi0 hzi1 hzi2 rfl (by decide) _ ((arl l u).take ma) ma HLN.out rfl (OWN2.out.alloc _) w2.heap.size 1 (f, t', co, (ma : Int)) rfl (news4 rfl) (fun _ _ => one_c4 _ _) (by omega) (by omega) (by simp; omega) ?_; intro A7 c7 w7 hown7 hgrow7 hat7))
        have HBX := Lib.hid ((HB2.out.alloc HB2.out.size (.cells #[.int .i64 f, .int .i64 t', .int .i64 co, .int .i64 ma] 72)).grown hgrow7 (by simp; have := HB2.out.size; omega) (fun g hg => by have := ((OWN2.out.alloc (.cells #[.int .i64 f, .int .i64 t', .int .i64 co, .int .i64 ma] 72)).base_ g hg).1; have := HSZ1.out; omega))
        rw [← HE4.out, ← HSN.out] at hown7
        have OWN7 := Lib.hid hown7
        clear hown7 hgrow7 hat7 e0 e1 e2 u0 u1 HSN HE4
        go_wp2
        go_roundw
        case' rel => exact ⟨ma + 1, A7, ma + 1, c7, by omega, by go_num, rfl, rfl, OWN7.out, HBX⟩
        case' measure => simp [intOf]; omega
    · have hmm : ma = l.length := by omega
      subst hmm
      have HOWN := Lib.hid hown
      have UMH := Lib.hid um
      have hwb := HB.out.size
      clear hown um bx hlt hk
      go_upto_region 9 with fail
      have hown := HOWN.out
      rw [List.take_of_length_le (by rw [arl_len]; omega)] at hown
      have hcm := ca_made UMH.out hown (by rw [arl_len]) hb0 (by have := HSZ1.out; omega) hn64
      have HCM := Lib.hid hcm
      have hmk := HMK.out
      clear hown hcm
      go_cut [12, 13] from 56 to 61 (fun s12 s13 wx => ∃ SD SP : Nat, s12 = .slice (some ⟨SD, 0, none⟩) n n ∧ s13 = .slice (some ⟨SP, 0, none⟩) n n ∧ Hid (CA w0 wx b1 n l.length U SD SP Aa l.length ca u (arl l u) (List.replicate n 0) (List.replicate n 0)))
      case first =>
        go_region
        all_goals
          go_wp2
          go_meet
          first
            | exact ⟨_, _, rfl, rfl, Lib.hid HCM.out.1.drew1⟩
            | exact ⟨_, _, rfl, rfl, Lib.hid HCM.out.2.drew1⟩
      case rest =>
        obtain ⟨SD, SP, rfl, rfl, hca⟩ := hcut
        clear HCM HOWN UMH hmk HMK UM1 HSZ1 q0 q1 zb hwb HB
        have CA0 := hca
        clear hca
        go_upto_region 11 with fail
        go_loopw [64] (fun s64 wr => ∃ (k : Nat), k ≤ n ∧ s64 = .int .i64 k ∧ CA w0 wr b1 n l.length U SD SP Aa l.length ca u (arl l u) (List.replicate k far ++ List.replicate (n - k) 0) (List.replicate k (-1) ++ List.replicate (n - k) 0)) (fun i _ => n - (intOf i).toNat)
        case atStart => exact ⟨0, Nat.zero_le _, rfl, by simpa using CA0.out⟩
        case round =>
          obtain ⟨k, hk, rfl, hca⟩ := hrel
          clear CA0
          by_cases hlt : k < n
          · obtain ⟨c0, c1⟩ := own_at1 hca.dl hca.dist hlt
            obtain ⟨p0, p1⟩ := own_at1 hca.pl hca.pred hlt
            have hcp := hca.ne
            have hpc : SP ≠ SD := fun e => hcp e.symm
            have HS := Lib.hid hca
            clear hca
            go_wp2
            go_roundw
            case' rel => exact ⟨k + 1, by omega, by go_num, by rw [← Bell.fill_step n k far 0 hlt, ← Bell.fill_step n k (-1) 0 hlt]; exact (HS.out.setD k far).setP k (-1)⟩
            case' measure => simp [intOf]; omega
          · obtain rfl : n = k := by omega
            rw [Nat.sub_self, List.replicate_zero, List.append_nil, List.append_nil] at hca
            obtain ⟨c0, c1⟩ := own_at1 hca.dl hca.dist hsn
            have ca1 := hca.setD s 0
            have CA1 := Lib.hid ca1
            have hsn3 : (s : Int) < (n : Int) := by omega
            have TB0 := Lib.hid (TB.start H0.out)
            clear hca ca1 hlt hk
            go_upto_region 17 with fail
            have ca1 := CA1.out
            generalize wr.setCell ⟨SD, s, none⟩ (.int .i64 0) = w3 at ca1 ⊢
            have CA2 := Lib.hid ca1
            clear CA1 ca1 c0 c1
            have TB1 : Hid (TB n l u s π ((List.replicate n far).set s 0) (List.replicate n (-1))) := TB0
            go_loopg [15] (2 * sm n ((List.replicate n far).set s 0) + 1).toNat (fun g s15 wy => ∃ (D P : List Int) (more : Bool), s15 = .bool more ∧ CA w0 wy b1 n l.length U SD SP Aa l.length ca u (arl l u) D P ∧ Hid (TB n l u s π D P) ∧ Hid (more = false → Fin l u D) ∧ (2 * sm n D + (if more = true then 1 else 0)).toNat ≤ g ∧ g ≤ (2 * sm n ((List.replicate n far).set s 0) + 1).toNat)
            case atStart => exact ⟨_, _, true, rfl, CA2.out, TB1, Lib.hid (fun h => by cases h), by simp, Nat.le_refl _⟩
            case round =>
              obtain ⟨D, P, more, rfl, hca, HTB, HFIN, hgh, hgb⟩ := hrel
              clear CA2 TB0 TB1
              cases more with
              | true =>
                have HCA := Lib.hid hca
                have hsm0 : 0 ≤ sm n D := rsum_nonneg _ fun i hi => by
                  have h1 := (HTB.out.lo (i : Int) (by omega) (by omega)).1
                  have h2 := (H0.out.rng (i : Int) (by omega) (by omega)).1
                  omega
                clear hca
                go_upto_region 20 with fail
                go_loopw [15, 80] (fun s15 s80 wz => ∃ (j : Nat) (D' P' : List Int) (mo : Bool), j ≤ l.length ∧ s80 = .int .i64 j ∧ s15 = .bool mo ∧ CA w0 wz b1 n l.length U SD SP Aa l.length ca u (arl l u) D' P' ∧ Hid (TB n l u s π D' P') ∧ ((mo = false ∧ D' = D ∧ Hid (∀ k, k < j → ¬ (dg D (af l u k) < far ∧ dg D (af l u k) + ac l u k < dg D (at_ l u k)))) ∨ (mo = true ∧ Hid (sm n D' < sm n D)))) (fun _ i _ => l.length - (intOf i).toNat)
                case atStart => exact ⟨0, D, P, false, Nat.zero_le _, rfl, rfl, HCA.out, HTB, .inl ⟨rfl, rfl, Lib.hid (fun k hk => absurd hk (Nat.not_lt_zero _))⟩⟩
                case round =>
                  clear HCA
                  obtain ⟨j, D', P', mo, hj, rfl, rfl, hca, HTB2, hcs⟩ := hrel
                  by_cases hlt2 : j < l.length
                  · have hja : j < (arl l u).length := by rw [arl_len]; exact hlt2
                    obtain ⟨SA, rfl, hSA, r0, r1, r2, r3⟩ := own_at4 hca.al hca.arcs hja
                    rw [arl_get] at r0 r1 r2 r3
                    simp only at r0 r1 r2 r3
                    obtain ⟨⟨a0, a1⟩, ⟨b0, b1'⟩, c0, c1⟩ := H0.out.arc hlt2
                    have hst := fun h1 h2 => HTB2.out.step H0.out hlt2 h1 h2
                    have hA := HTB2.out.lo _ a0 a1
                    have hB := HTB2.out.lo _ b0 b1'
                    have hpA := (H0.out.rng _ a0 a1).1
                    have hpB := (H0.out.rng _ b0 b1').1
                    have hcase := fun (hno : ¬ (dg D' (af l u j) < far ∧ dg D' (af l u j) + ac l u j < dg D' (at_ l u j))) => (by
                      rcases hcs with ⟨h1, h2, h3⟩ | ⟨h1, h2⟩
                      · refine .inl ⟨h1, h2, Lib.hid (fun k hk => ?_)⟩
                        by_cases e : k = j
                        · subst e; rw [h2] at hno; exact hno
                        · exact h3.out k (by omega)
                      · exact .inr ⟨h1, h2⟩ : (mo = false ∧ D' = D ∧ Hid (∀ k, k < j + 1 → ¬ (dg D (af l u k) < far ∧ dg D (af l u k) + ac l u k < dg D (at_ l u k)))) ∨ (mo = true ∧ Hid (sm n D' < sm n D)))
                    have hsmj : sm n D' ≤ sm n D := by
                      rcases hcs with ⟨_, h2, _⟩ | ⟨_, h2⟩
                      · rw [h2]; exact Int.le_refl _
                      · have := h2.out; omega
                    generalize af l u j = fa at *
                    generalize at_ l u j = ta at *
                    generalize ac l u j = ka at *
                    obtain ⟨fa, rfl⟩ := Int.eq_ofNat_of_zero_le a0
                    obtain ⟨ta, rfl⟩ := Int.eq_ofNat_of_zero_le b0
                    have hfa : fa < n := by omega
                    have hta : ta < n := by omega
                    have hca1 := hca.alloc (.cells #[.int .i64 fa, .int .i64 ta, .int .i64 ka, .int .i64 j] 72)
                    have EDG := Lib.hid (heap_alloc_new wr (.cells #[.int .i64 fa, .int .i64 ta, .int .i64 ka, .int .i64 j] 72))
                    have CA3 := Lib.hid hca1
                    have HST := Lib.hid hst
                    have HCASE := Lib.hid hcase
                    have HSMJ := Lib.hid hsmj
                    have hjl3 : (j : Int) < (l.length : Int) := by omega
                    clear hca hca1 hst hcase hsmj hcs hja
                    go_upto_region 22 with fail
                    obtain ⟨gE, hgE⟩ : ∃ gE, gE = wr.heap.size := ⟨_, rfl⟩
                    rw [← hgE] at EDG ⊢
                    generalize wr.alloc (.cells #[.int .i64 fa, .int .i64 ta, .int .i64 ka, .int .i64 j] 72) = w5 at EDG CA3 ⊢
                    have e0 := blk_cell EDG.out 0
                    have e1 := blk_cell EDG.out 1
                    have e2 := blk_cell EDG.out 2
                    simp only [List.getElem?_toArray, List.getElem?_cons_zero, List.getElem?_cons_succ] at e0 e1 e2
                    have zE := lt_of_block EDG.out
                    obtain ⟨d0, d1⟩ := own_at1 CA3.out.dl CA3.out.dist hfa
                    obtain ⟨d2, d3⟩ := own_at1 CA3.out.dl CA3.out.dist hta
                    obtain ⟨p0, p1⟩ := own_at1 CA3.out.pl CA3.out.pred hta
                    rw [show D'.getD fa 0 = dg D' (fa : Int) by rw [dg, Int.toNat_natCast]] at d0
                    rw [show D'.getD ta 0 = dg D' (ta : Int) by rw [dg, Int.toNat_natCast]] at d2
                    have hfa3 : (fa : Int) < (n : Int) := by omega
                    have hta3 : (ta : Int) < (n : Int) := by omega
                    clear hgE r0 r1 r2 r3 hSA
                    obtain ⟨x, hx⟩ : ∃ x, dg D' (fa : Int) = x := ⟨_, rfl⟩
                    obtain ⟨y, hy⟩ : ∃ y, dg D' (ta : Int) = y := ⟨_, rfl⟩
                    rw [hx] at d0 HST HCASE hA
                    rw [hy] at d2 HST HCASE hB
                    unfold far at hA hB HST HCASE
                    have hx0 : 0 ≤ x := by omega
                    have hx1 : x ≤ 1099511627776 := hA.2
                    obtain ⟨csD, hcsD⟩ := own_blkT CA3.out.dist
                    obtain ⟨csP, hcsP⟩ := own_blkT CA3.out.pred
                    have hgD := blk_neT EDG.out hcsD (by decide)
                    have hgP := blk_neT EDG.out hcsP (by decide)
                    have hgD' : SD ≠ gE := fun e => hgD e.symm
                    have hgP' : SP ≠ gE := fun e => hgP e.symm
                    have hwx : IntKind.i64.wrap (x + ka) = x + ka := IntWalk.i64_in _ (by omega)
                    clear hcsD hcsP
                    by_cases hc1 : x < 1099511627776
                    · by_cases hc2 : x + ka < y
                      · obtain ⟨htb, hsm⟩ := HST.out hc1 hc2
                        simp only [Int.toNat_natCast] at htb hsm
                        have HTB3 := Lib.hid htb
                        have HSM3 := Lib.hid (show sm n (D'.set ta (x + ka)) < sm n D by have := HSMJ.out; omega)
                        have hx' := Lib.hid hx
                        have hne := CA3.out.ne
                        have hne' : SP ≠ SD := fun e => hne e.symm
                        clear htb hsm HST HCASE HSMJ hx hy hA hB hpA hpB
                        have hd1 : decide (x + ka < y) = true := decide_eq_true hc2
                        go_cut [106] from 85 to 105 (fun s106 wx => s106 = .bool true ∧ Hid (CA w0 wx b1 n l.length U SD SP (some ⟨SA, 0, none⟩) l.length ca u (arl l u) D' P') ∧ Hid (wx.heap[gE]? = some (.cells #[.int .i64 fa, .int .i64 ta, .int .i64 ka, .int .i64 j] 72 (0, 0))))
                        case first =>
                          go_region
                          all_goals
                            go_wp2
                            go_meet
                            exact ⟨rfl, Lib.hid CA3.out.drew1, EDG⟩
                        case rest =>
                          obtain ⟨rfl, CA4, EDG4⟩ := hcut
                          clear hd1 CA3 EDG d0 d1 d2 d3 p0 p1 e0 e1 e2 zE
                          go_upto_region 23 with fail
                          generalize wc = w6 at CA4 EDG4 ⊢
                          have e0 := blk_cell EDG4.out 0
                          have e1 := blk_cell EDG4.out 1
                          have e2 := blk_cell EDG4.out 2
                          simp only [List.getElem?_toArray, List.getElem?_cons_zero, List.getElem?_cons_succ] at e0 e1 e2
                          have zE := lt_of_block EDG4.out
                          obtain ⟨d0, d1⟩ := own_at1 CA4.out.dl CA4.out.dist hfa
                          obtain ⟨d2, d3⟩ := own_at1 CA4.out.dl CA4.out.dist hta
                          obtain ⟨p0, p1⟩ := own_at1 CA4.out.pl CA4.out.pred hta
                          rw [show D'.getD fa 0 = x by rw [← hx'.out, dg, Int.toNat_natCast]] at d0
                          have ca5 : CA w0 ((w6.setCell ⟨SD, ta, none⟩ (.int .i64 (x + ka))).setCell ⟨SP, ta, none⟩ (.int .i64 j)) b1 n l.length U SD SP (some ⟨SA, 0, none⟩) l.length ca u (arl l u) (D'.set ta (x + ka)) (P'.set ta j) := (CA4.out.setD ta (x + ka)).setP ta j
                          have ca5' : CA w0 ((w6.setCell ⟨SP, ta, none⟩ (.int .i64 j)).setCell ⟨SD, ta, none⟩ (.int .i64 (x + ka))) b1 n l.length U SD SP (some ⟨SA, 0, none⟩) l.length ca u (arl l u) (D'.set ta (x + ka)) (P'.set ta j) := (CA4.out.setP ta j).setD ta (x + ka)
                          have CA5 := Lib.hid ca5.drew1
                          have CA5' := Lib.hid ca5'.drew1
                          clear ca5 ca5' CA4 EDG4
                          go_region
                          all_goals
                            go_wp2
                            go_roundw
                            case' rel => exact ⟨j + 1, _, _, true, by omega, by go_num, rfl, by first | with_reducible exact CA5.out | with_reducible exact CA5'.out, HTB3, .inr ⟨rfl, HSM3⟩⟩
                            case' measure => simp [intOf]; omega
                      · have hcs2 := Lib.hid (HCASE.out (fun h => hc2 h.2))
                        have hd2 : decide (x + ka < y) = false := decide_eq_false hc2
                        have hd3 : y ≤ x + ka := by omega
                        clear HST HCASE HSMJ hx hy hA hB hpA hpB d1 d3 p0 p1
                        go_region
                        all_goals
                          go_wp2
                          go_roundw
                          case' rel => exact ⟨j + 1, D', P', mo, by omega, by go_num, rfl, CA3.out.drew1, HTB2, hcs2.out⟩
                          case' measure => simp [intOf]; omega
                    · have hcs2 := Lib.hid (HCASE.out (fun h => hc1 h.1))
                      have hd2 : decide (x < 1099511627776) = false := decide_eq_false hc1
                      have hd3 : 1099511627776 ≤ x := by omega
                      clear HST HCASE HSMJ hx hy hA hB hpA hpB d1 d3 p0 p1
                      go_region
                      all_goals
                        go_wp2
                        go_roundw
                        case' rel => exact ⟨j + 1, D', P', mo, by omega, by go_num, rfl, CA3.out.drew1, HTB2, hcs2.out⟩
                        case' measure => simp [intOf]; omega
                  · obtain rfl : j = l.length := by omega
                    have HCA2 := Lib.hid hca
                    have hfin : Hid (mo = false → Fin l u D') := Lib.hid (fun hmo => by
                      rcases hcs with ⟨_, h2, h3⟩ | ⟨h1, _⟩
                      · rw [h2]; exact h3.out
                      · rw [h1] at hmo; cases hmo)
                    have hmeas : (2 * sm n D' + (if mo = true then 1 else 0)).toNat < (2 * sm n D + (if true = true then 1 else 0)).toNat := by
                      rcases hcs with ⟨h1, h2, _⟩ | ⟨h1, h2⟩
                      · rw [h1, h2]; simp; omega
                      · have := h2.out
                        have h3 : 0 ≤ sm n D' := rsum_nonneg _ fun i hi => by
                          have h1 := (HTB2.out.lo (i : Int) (by omega) (by omega)).1
                          have h2 := (H0.out.rng (i : Int) (by omega) (by omega)).1
                          omega
                        rw [h1]; simp; omega
                    have HME := Lib.hid hmeas
                    clear hca hcs hmeas
                    go_wp2
                    go_roundg ((2 * sm n D' + (if mo = true then 1 else 0)).toNat)
                    case measure => have := HME.out; omega
                    case rel => exact ⟨D', P', mo, rfl, HCA2.out, HTB2, hfin, Nat.le_refl _, by have := HME.out; omega⟩
              | false =>
                have hfin := HFIN.out rfl
                obtain ⟨d0, d1⟩ := own_at1 hca.dl hca.dist ht
                rw [show D.getD t 0 = dg D (t : Int) by rw [dg, Int.toNat_natCast]] at d0
                have htn3 : (t : Int) < (n : Int) := by omega
                have HFN := Lib.hid hfin
                by_cases htf : dg D (t : Int) = far
                · have fin : ∀ W, UM w0 W U l.length u → CarrySays w0 n l U s t π u (.returned (.bool false)) W := fun W hW => ⟨D, P, HTB.out, HFN.out, .inl ⟨htf, rfl, hW⟩⟩
                  have FIN := Lib.hid fin
                  have UMH := Lib.hid hca.um
                  rw [htf] at d0
                  unfold far at d0
                  clear hca hfin fin htf HFIN hgh hgb d1
                  go_wp2
                  go_ret
                  exact FIN.out _ UMH.out
                · have hlt : dg D (t : Int) < far := by have := (HTB.out.lo (t : Int) (by omega) (by omega)).2; omega
                  obtain ⟨ks, hks⟩ := HTB.out.chain (t : Int) (by omega) (by omega) hlt
                  have fin : ∀ W, UM w0 W U l.length (flips u ks) → CarrySays w0 n l U s t π u (.returned (.bool true)) W := fun W hW => ⟨D, P, HTB.out, HFN.out, .inr ⟨hlt, ks, hks, rfl, hW⟩⟩
                  have FIN := Lib.hid fin
                  have HCA := Lib.hid hca
                  have HKS := Lib.hid hks
                  have hte : (dg D (t : Int) == 1099511627776) = false := by rw [beq_eq_false_iff_ne]; exact htf
                  have hdt := hlt
                  clear hca hfin fin htf hlt hks HFIN hgh hgb d1 HFN
                  go_upto_region 28 with fail
                  go_loopg [18] ks.length (fun g s18 wy => ∃ (v : Int) (js : List Nat) (u' : List Bool), s18 = .int .i64 v ∧ CA w0 wy b1 n l.length U SD SP Aa l.length ca u' (arl l u) D P ∧ Hid (Chn l u P s v js) ∧ Hid (flips u' js = flips u ks) ∧ Hid (∀ k ∈ js, ub u' k = ub u k) ∧ Hid ((0 ≤ v ∧ v < n) ∧ dg D v < far) ∧ js.length ≤ g ∧ g ≤ ks.length)
                  case atStart => exact ⟨t, ks, u, rfl, HCA.out, HKS, Lib.hid rfl, Lib.hid (fun _ _ => rfl), Lib.hid ⟨⟨by omega, by omega⟩, hdt⟩, Nat.le_refl _, Nat.le_refl _⟩
                  case round =>
                    clear HCA d0
                    obtain ⟨v, js, u', rfl, hca, HCH, HFL, HAG, HRV, hgh, hgb⟩ := hrel
                    by_cases hvs : v = s
                    · have hjs : js = [] := by
                        have h1 := HCH.out
                        rw [hvs] at h1
                        exact h1.uniq .root
                      have hfu : u' = flips u ks := by have := HFL.out; rw [hjs] at this; exact this
                      have um := hca.um
                      rw [hfu] at um
                      have UMH := Lib.hid um
                      subst hvs
                      clear hca um hfu hjs hgh hgb
                      go_wp2
                      go_ret
                      exact FIN.out _ UMH.out
                    · have hch := HCH.out
                      cases hch with
                      | root => exact absurd rfl hvs
                      | @link _ k ks2 _ hk hkl hat hc2 =>
                        obtain ⟨⟨v0, v1⟩, hvf⟩ := HRV.out
                        obtain ⟨k', k1, k2, k3, k4, k5⟩ := HTB.out.tree v v0 v1 hvf hvs
                        rw [hk] at k2
                        obtain rfl : k = k' := by omega
                        obtain ⟨⟨a0, a1⟩, _⟩ := H0.out.arc hkl
                        have hja : k < (arl l u).length := by rw [arl_len]; exact hkl
                        obtain ⟨SA, rfl, hSA, r0, r1, r2, r3⟩ := own_at4 hca.al hca.arcs hja
                        rw [arl_get] at r0 r1 r2 r3
                        simp only at r0 r1 r2 r3
                        obtain ⟨v, rfl⟩ := Int.eq_ofNat_of_zero_le v0
                        have hvn : v < n := by omega
                        obtain ⟨p0, _⟩ := own_at1 hca.pl hca.pred hvn
                        rw [show P.getD v 0 = dg P (v : Int) by rw [dg, Int.toNat_natCast], hk] at p0
                        obtain ⟨fa, hfa⟩ := Int.eq_ofNat_of_zero_le a0
                        have hub := HAG.out k (List.mem_cons_self ..)
                        have hnd : (k :: ks2).Nodup := HCH.out.nodup
                        have hfl2 : Hid (flips (u'.set k (!ub u' k)) ks2 = flips u ks) := Lib.hid (by have h1 := HFL.out; exact h1)
                        have hag2 : Hid (∀ j ∈ ks2, ub (u'.set k (!ub u' k)) j = ub u j) := Lib.hid (fun j hj => by
                          have hjk : j ≠ k := fun e => (List.nodup_cons.1 hnd).1 (by rw [← e]; exact hj)
                          rw [ub_set (by rw [hca.um.len]; exact hkl), if_neg hjk]
                          exact HAG.out j (List.mem_cons_of_mem _ hj))
                        rw [hfa] at r0 hc2 k4 a1
                        have HC2 := Lib.hid hc2
                        have HRV2 := Lib.hid (show (0 ≤ (fa : Int) ∧ (fa : Int) < n) ∧ dg D (fa : Int) < far from ⟨⟨by omega, a1⟩, k4⟩)
                        have hk3 : (k : Int) < (l.length : Int) := by omega
                        have hvn3 : (v : Int) < (n : Int) := by omega
                        have hvs3 : ((v : Int) != (s : Int)) = true := by rw [bne_iff_ne]; exact hvs
                        have CA3 := Lib.hid (hca.alloc (.cells #[.int .i64 fa, .int .i64 (at_ l u k), .int .i64 (ac l u k), .int .i64 k] 72))
                        have EDG := Lib.hid (heap_alloc_new wr (.cells #[.int .i64 fa, .int .i64 (at_ l u k), .int .i64 (ac l u k), .int .i64 k] 72))
                        have hgh2 := hgh
                        rw [List.length_cons] at hgh2
                        have hgb2 : ks2.length ≤ ks.length := by omega
                        clear hca hk hfa hub k1 k2 k3 k4 k5 hat hc2 hnd hja hvs HCH HFL HAG HRV
                        generalize at_ l u k = ta at *
                        generalize ac l u k = ka at *
                        go_upto_region 30 with fail
                        obtain ⟨gE, hgE⟩ : ∃ gE, gE = wr.heap.size := ⟨_, rfl⟩
                        rw [← hgE] at EDG ⊢
                        generalize wr.alloc (.cells #[.int .i64 fa, .int .i64 ta, .int .i64 ka, .int .i64 k] 72) = w5 at EDG CA3 ⊢
                        have e0 := blk_cell EDG.out 0
                        have e3 := blk_cell EDG.out 3
                        simp only [List.getElem?_toArray, List.getElem?_cons_zero, List.getElem?_cons_succ] at e0 e3
                        have zE := lt_of_block EDG.out
                        obtain ⟨csU, hcsU⟩ := own_blkT CA3.out.um.own
                        have hgU := blk_neT EDG.out hcsU (by decide)
                        have hgU' : U ≠ gE := fun e => hgU e.symm
                        obtain ⟨x0, x1⟩ := CA3.out.um.at1 hkl
                        have ca5 := (CA3.out.setU hkl (!ub u' k)).drew1
                        have CA5 := Lib.hid ca5
                        generalize ub u' k = bk at *
                        clear ca5 hgE hcsU r0 r1 r2 r3 hSA p0 CA3 EDG
                        go_region
                        all_goals
                          go_wp2
                          go_roundg (ks2.length)
                          case' measure => omega
                          case' rel => exact ⟨(fa : Int), ks2, u'.set k (!bk), rfl, CA5.out, HC2, hfl2, hag2, HRV2, Nat.le_refl _, hgb2⟩
end Go.Proofs.Ytjebckehmmbkbaa.Twin
