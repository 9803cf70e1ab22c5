/- The walk of twin.follow, with the places of its way told. Printed by gen_twinp.py. -/
import Derived.Test.YtjebckehmmbkbaaVTwinFolMem
import Derived.Test.YtjebckehmmbkbaaVTwinPath
import Derived.Test.YtjebckehmmbkbaaVBellSh
import Derived.Test.YtjebckehmmbkbaaVSink
import Derived.Deep.CutRange
import Derived.Deep.LoopGhost
import Derived.Deep.RegionLaw
import Derived.IntWalk
namespace Go.Proofs.Ytjebckehmmbkbaa.TwinP
open Go.Proofs.Ytjebckehmmbkbaa.Twin
open Go.RowKit Go.Proofs.Ytjebckehmmbkbaa NetLaw BellLaw FlowLaw TwinLaw Go.Proofs.Ytjebckehmmbkbaa.Net Go.Proofs.Ytjebckehmmbkbaa.Std
open Go.Proofs.Ytjebckehmmbkbaa.Flow (cb own_setG own_atG own_madeI own_madeB)
set_option linter.unusedSimpArgs false
set_option linter.unusedVariables false
theorem infoIntF : (Try.prog.info? 3).map (fun i => (i.zero, i.size, i.bytes)) = some (some (.int .i64 0), 1, 8) := by kernel_rfl
theorem newsF {w : World} {e : TypeId} {x : Int} {g : Nat} (hg : w.heap.size = g) : ∀ j, j < 1 → (w.alloc (.cells #[.int .i64 x] e)).cell? ⟨g, j, none⟩ = some (ci x j) := by
  subst hg
  intro j hj
  rw [cell_new]
  match j, hj with
  | 0, _ => rfl
/-- what follow answers -/
def FollowSays (w0 w : World) (l : List E) (U : Nat) (s t v : Int) (u : List Bool) (e : Ending) (w' : World) : Prop :=
  ∃ Ap cp p co u', e = .returned (.agg #[.slice Ap p.length cp, .int .i64 co]) ∧ Own w' w.heap.size 3 1 ci (.slice Ap p.length cp) p ∧ UM w0 w' U l.length u' ∧ FolP l s t v u u' t co p ∧ ∀ g o, w.heap[g]? = some o → g ≠ U → w'.heap[g]? = some o
theorem fw_made {w0 w w' : World} {X R BN n m U c : Nat} {A : Option Addr} {u : List Bool} {s : Int} {Q : Nat} (hu : UM w0 w U m u) (hk : Below w.heap.size w w')
    (ho : Own w' w.heap.size 3 1 ci (.slice (some ⟨Q, 0, none⟩) 1 1) [s]) (hx : w'.heap[X]? = some (.cells #[.slice (some ⟨Q, 0, none⟩) 1 1, .int .i64 0] 31 (0, 0)))
    (hr : w'.heap[R]? = some (.cells #[.slice none 0 0, .int .i64 0] 31 (0, 0))) (hn : w'.heap[BN]? = some (.cells #[.int .i64 n, .slice A m c] 24 (0, 0))) (b0 : w0.heap.size ≤ w.heap.size) (bX : w.heap.size ≤ X) (xr : X ≠ R) :
    FW w0 w w' X R BN n m U A c u (some ⟨Q, 0, none⟩) 1 [s] 0 := ⟨hu.keep hk, ho, hx, hr, hn, b0, bX, xr, fun g o hg _ => blk_below hg hk (lt_of_block hg)⟩
set_option maxRecDepth 100000 in
set_option maxHeartbeats 16000000 in
theorem follow_any (w0 : World) (n : Nat) (A : Option Addr) (c : Nat) (l : List E) (U : Nat) (s t : Int) (v : Int) (u : List Bool) (w : World) (hl : Sl w0 w0.heap.size 3 ce A l) (hc : ∀ e ∈ l, 1 ≤ e.2.2 ∧ e.2.2 ≤ 10000) (hl6 : l.length ≤ 600) (hv : 1 ≤ v) (hbf : BF l s t u v) (hum : UM w0 w U l.length u) :
    Calls Try.prog 13 #[.agg #[.int .i64 n, .slice A l.length c], .slice (some ⟨U, 0, none⟩) l.length l.length, .int .i64 s, .int .i64 t] w fun e w' => FollowSays w0 w l U s t v u e w' := by
  obtain ⟨i0, hi, hzi0, hzi1, hzi2⟩ := info_parts infoIntF
  have hw0 := hum.lo.size
  have HUM := Lib.hid hum
  have HL := Lib.hid hl
  have HC := Lib.hid hc
  have HBF := Lib.hid hbf
  clear hum hl hc hbf
  go_enter Try.func13, Try.ntmps13
  go_upto_region 3 with fail
  have hfw : FW w0 w ((((w.alloc (.cells #[.int .i64 n, .slice A l.length c] 24)).alloc (.cells #[.slice none 0 0, .int .i64 0] 31)).alloc (.cells #[.int .i64 s] 3)).alloc (.cells #[.slice (some ⟨w.heap.size + 1 + 1, 0, none⟩) 1 1, .int .i64 0] 31)) (w.heap.size + 1 + 1 + 1) (w.heap.size + 1) w.heap.size n l.length U A c u (some ⟨w.heap.size + 1 + 1, 0, none⟩) 1 [s] 0 := by
    refine fw_made HUM.out ?_ ?_ ?_ ?_ ?_ hw0 (by omega) (by omega)
    · exact ((((Below.refl _ _).alloc (Nat.le_refl _) _).alloc (by simp) _).alloc (by simp; omega) _).alloc (by simp; omega) _
    · exact (own_new' _ _ _ (by simp) rfl (by simp; omega) (by simp) rfl).alloc _
    · have h := heap_alloc_new (((w.alloc (.cells #[.int .i64 n, .slice A l.length c] 24)).alloc (.cells #[.slice none 0 0, .int .i64 0] 31)).alloc (.cells #[.int .i64 s] 3)) (.cells #[.slice (some ⟨w.heap.size + 1 + 1, 0, none⟩) 1 1, .int .i64 0] 31)
      simpa using h
    · have h := blk_alloc (blk_alloc (heap_alloc_new (w.alloc (.cells #[.int .i64 n, .slice A l.length c] 24)) (.cells #[.slice none 0 0, .int .i64 0] 31)) (.cells #[.int .i64 s] 3)) (.cells #[.slice (some ⟨w.heap.size + 1 + 1, 0, none⟩) 1 1, .int .i64 0] 31)
      simpa using h
    · exact blk_alloc (blk_alloc (blk_alloc (heap_alloc_new w _) _) _) _
  have FW0 := Lib.hid hfw
  clear hfw
  obtain ⟨X, hX⟩ : ∃ X, X = w.heap.size + 1 + 1 + 1 := ⟨_, rfl⟩
  obtain ⟨Q, hQ⟩ : ∃ Q, Q = w.heap.size + 1 + 1 := ⟨_, rfl⟩
  obtain ⟨R, hR⟩ : ∃ R, R = w.heap.size + 1 := ⟨_, rfl⟩
  have hbX : w.heap.size ≤ X := by omega
  have hbR : w.heap.size ≤ R := by omega
  rw [← hX] at FW0 ⊢
  rw [← hQ] at FW0 ⊢
  rw [← hR] at FW0 ⊢
  have FIN : Hid (∀ e W, FollowSays w0 w l U s t v u e W → FollowSays w0 w l U s t v u e W) := Lib.hid (fun _ _ h => h)
  generalize (((w.alloc (.cells #[.int .i64 n, .slice A l.length c] 24)).alloc (.cells #[.slice none 0 0, .int .i64 0] 31)).alloc (.cells #[.int .i64 s] 3)).alloc (.cells #[.slice (some ⟨Q, 0, none⟩) 1 1, .int .i64 0] 31) = w1 at FW0 ⊢
  have FOL0 := Lib.hid (FolP.start HBF.out)
  have hnu : nub u ≤ l.length := by have := List.countP_le_length (p := id) (l := u); unfold nub; rw [HBF.out.len] at this; exact this
  clear hX hQ hR HUM HBF
  go_loopg [10] (nub u) (fun g s10 wy => ∃ (x : Int) (u' : List Bool) (Ap : Option Addr) (cp : Nat) (p : List Int) (co : Int), s10 = .int .i64 x ∧ FW w0 w wy X R w.heap.size n l.length U A c u' Ap cp p co ∧ Hid (FolP l s t v u u' x co p) ∧ p.length + nub u' ≤ 601 ∧ nub u' ≤ g ∧ g ≤ nub u)
  case atStart => exact ⟨s, u, _, 1, [s], 0, rfl, FW0.out, FOL0, by simp; omega, Nat.le_refl _, Nat.le_refl _⟩
  case round =>
    obtain ⟨x, u', Ap, cp, p, co, rfl, hfw, HF, hpl, hgh, hgb⟩ := hrel
    clear FW0 FOL0 FIN
    have q0 := blk_cell hfw.net 0
    have q1 := blk_cell hfw.net 1
    have x0 := blk_cell hfw.out 0
    have x1 := blk_cell hfw.out 1
    have r0 := blk_cell hfw.res 0
    have r1 := blk_cell hfw.res 1
    have rf0 := blk_free hfw.res 0
    have rf1 := blk_free hfw.res 1
    simp only [List.getElem?_toArray, List.getElem?_cons_zero, List.getElem?_cons_succ] at q0 q1 x0 x1 r0 r1
    have zX := lt_of_block hfw.out
    have zR := lt_of_block hfw.res
    have zN := lt_of_block hfw.net
    by_cases hxt : x = t
    · subst hxt
      have HFW := Lib.hid hfw
      clear hfw q0 q1 hgh hgb
      go_wp2
      refine bodyPost_ret (v := .agg #[.slice Ap p.length cp, .int .i64 co]) (by simp [results, Try.results13, go_sem, zR, r0, r1, rf0, rf1]) rfl ?_
      have H := HFW.out
      exact ⟨Ap, cp, p, co, u', rfl, (H.path.setCell (H.path.ne_ H.res (by decide)) _).setCell (H.path.ne_ H.res (by decide)) _, ⟨(H.um.own.setCell (H.um.own.ne_ H.res (by decide)) _).setCell (H.um.own.ne_ H.res (by decide)) _, H.um.len, (H.um.lo.setCell (by dsimp only; omega) _).setCell (by dsimp only; omega) _⟩, HF.out, fun g o hg hn => blk_far (blk_far (H.oth g o hg hn) (by have := lt_of_block hg; dsimp only; omega) _) (by have := lt_of_block hg; dsimp only; omega) _⟩
    · have hne : (x != t) = true := by rw [bne_iff_ne]; exact hxt
      obtain ⟨i, hil, hib, hif⟩ := HF.out.fol.next hv hxt
      have HI := Lib.hid (And.intro hib hif)
      have HFW := Lib.hid hfw
      clear hfw hib hif x0 x1 r0 r1 rf0 rf1 hxt
      go_upto_region 5 with fail
      go_loopw [10, 23] (fun s10 s23 wz => ∃ k : Nat, k ≤ i ∧ s10 = .int .i64 x ∧ s23 = .int .i64 k ∧ FW w0 w wz X R w.heap.size n l.length U A c u' Ap cp p co) (fun _ s23 _ => l.length - (intOf s23).toNat)
      case atStart => exact ⟨0, Nat.zero_le _, rfl, rfl, HFW.out⟩
      case round =>
        obtain ⟨k, hki, rfl, rfl, hfw⟩ := hrel
        clear HFW q0 q1 zX zR zN
        have hkl : k < l.length := by omega
        obtain ⟨b, off, f, t', co', rfl, hbB, he, hcf, hct, hcc⟩ := (HL.out.keep hfw.um.lo (Nat.le_refl _)).atE hkl
        have hcst := HC.out _ (List.getElem_mem hkl)
        have hed : fr l k = f ∧ en l k = t' ∧ cpt l k = co' := by unfold fr en cpt; rw [ed_at hkl, he]; exact ⟨rfl, rfl, rfl⟩
        rw [he] at hcst
        simp only at hcst
        have hbw : b < wr.heap.size := by have := hfw.um.lo.size; omega
        have HED := Lib.hid hed
        have EDG := Lib.hid (heap_alloc_new wr (.cells #[.int .i64 f, .int .i64 t', .int .i64 co'] 48))
        have FW2 := Lib.hid (hfw.alloc (.cells #[.int .i64 f, .int .i64 t', .int .i64 co'] 48))
        have hkl3 : (k : Int) < (l.length : Int) := by omega
        clear hed he hfw
        go_upto_region 7 with fail
        obtain ⟨gE, hgE⟩ : ∃ gE, gE = wr.heap.size := ⟨_, rfl⟩
        rw [← hgE] at EDG ⊢
        generalize wr.alloc (.cells #[.int .i64 f, .int .i64 t', .int .i64 co'] 48) = w5 at EDG FW2 ⊢
        have e0 := blk_cell EDG.out 0
        have e1 := blk_cell EDG.out 1
        have e2 := blk_cell EDG.out 2
        simp only [List.getElem?_toArray, List.getElem?_cons_zero, List.getElem?_cons_succ] at e0 e1 e2
        have zE := lt_of_block EDG.out
        obtain ⟨u0, u1⟩ := FW2.out.um.at1 hkl
        have zU := (FW2.out.um.own.base_ U rfl).2
        clear hgE hcf hct hcc hbw
        by_cases hcase : ub u' k = true ∧ f = x
        · obtain ⟨hb, hfx⟩ := hcase
          have hfe : (f == x) = true := by rw [beq_iff_eq]; exact hfx
          rw [hb] at u0
          have hstep := HF.out.step hkl hb (by rw [HED.out.1]; exact hfx)
          rw [HED.out.2.1, HED.out.2.2] at hstep
          have hns := nub_set (u := u') (by rw [HF.out.fol.len]; exact hkl) hb
          have hco : -6000000 ≤ co ∧ co ≤ 6000000 := by
            have h1 := cst_nonneg HC.out u
            have h2 := cst_nonneg HC.out u'
            have h3 := HF.out.fol.cost
            omega
          have hwx : IntKind.i64.wrap (co + co') = co + co' := IntWalk.i64_in _ (by omega)
          have HST := Lib.hid hstep
          obtain ⟨csU, hcsU⟩ := own_blkT FW2.out.um.own
          have n1 := blk_neT EDG.out hcsU (by decide)
          have n2 := blk_neT EDG.out FW2.out.out (by decide)
          have n3 := blk_neT FW2.out.out hcsU (by decide)
          have n1' : U ≠ gE := fun e => n1 e.symm
          have n2' : X ≠ gE := fun e => n2 e.symm
          have n3' : U ≠ X := fun e => n3 e.symm
          have x0 := blk_cell FW2.out.out 0
          have x1 := blk_cell FW2.out.out 1
          have xf0 := blk_free FW2.out.out 0
          have xf1 := blk_free FW2.out.out 1
          simp only [List.getElem?_toArray, List.getElem?_cons_zero, List.getElem?_cons_succ] at x0 x1
          have zX := lt_of_block FW2.out.out
          have FW3 := Lib.hid ((FW2.out.setU hkl false).setCo (co + co'))
          clear hb hfx hstep hcsU
          go_upto_region 11 with fail
          generalize (w5.setCell ⟨U, k, none⟩ (.bool false)).setCell ⟨X, 1, none⟩ (.int .i64 (co + co')) = w6 at FW3 ⊢
          have hown := FW3.out.path
          have y0 := blk_cell FW3.out.out 0
          simp only [List.getElem?_toArray, List.getElem?_cons_zero] at y0
          have zX6 := lt_of_block FW3.out.out
          have y1 := blk_free FW3.out.out 0
          have HPA := Lib.hid (FW3.out.alloc (.cells #[.int .i64 t'] 3))
          clear e0 e1 e2 u0 u1 x0 x1 xf0 xf1 zE zU zX FW2 n1 n2 n3 n1' n2' n3' EDG hfe hwx
          go_wp2_with (at_builtin; go_must (refine wpList_push _ rfl (.tmp 50) (.tmp 52) _ rfl w.heap.size 3 i0 (.int .i64 0) 1 8 ci Try.underlying29 hi hzi0 hzi1 hzi2 rfl (by decide) _ p p.length rfl rfl (hown.alloc _) w6.heap.size 1 t' rfl (newsF rfl) (fun _ _ => one_ci _ _) (by omega) (by omega) (by simp; omega) ?_; intro A7 c7 w7 hown7 hgrow7 hat7; have hX7 := blk_grown (HPA.out).out hgrow7 ((HPA.out).path.ne_ (HPA.out).out (by decide)); have y7 := blk_cell hX7 0; simp only [List.getElem?_toArray, List.getElem?_cons_zero] at y7; have yf0 := blk_free hX7 0; have zX7 := lt_of_block hX7; have HP7 := Lib.hid ((HPA.out).push hgrow7 hown7); clear hX7 hown7 hgrow7 hat7))
          go_roundg (nub (u'.set k false))
          case' measure => have := hns; omega
          case' rel => exact ⟨t', u'.set k false, A7, c7, p ++ [t'], co + co', rfl, HP7.out, HST, by simp; omega, Nat.le_refl _, by omega⟩
        · have hki2 : k ≠ i := fun e => by
            subst e
            exact hcase ⟨HI.out.1, by rw [← HED.out.1]; exact HI.out.2⟩
          have FW3 := Lib.hid FW2.out
          have hki3 : k + 1 ≤ i := by omega
          clear FW2
          cases hb : ub u' k with
          | false =>
            rw [hb] at u0
            clear hb hcase
            go_wp2
            go_roundw
            case' rel => exact ⟨k + 1, hki3, rfl, by go_num, FW3.out⟩
            case' measure => simp [intOf]; omega
          | true =>
            have hfe : (f == x) = false := by rw [beq_eq_false_iff_ne]; exact fun e => hcase ⟨hb, e⟩
            rw [hb] at u0
            clear hb hcase
            go_wp2
            go_roundw
            case' rel => exact ⟨k + 1, hki3, rfl, by go_num, FW3.out⟩
            case' measure => simp [intOf]; omega
end Go.Proofs.Ytjebckehmmbkbaa.TwinP
