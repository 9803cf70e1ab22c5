/- For every n and all pairs: UnionLeast answers true (the answers of Of are the least of their groups, and the pairs' order and direction make no difference), and the arguments read as before. No condition. -/
import Derived.Test.YthlhlglmkcbgaaaRows
import Derived.Test.YthlhlglmkcbgaaaOpen
import Derived.Test.YthlhlglmkcbgaaaUnionOf
import Derived.Test.YthlhlglmkcbgaaaStdI
import Derived.StillTailTactics
namespace Go.Proofs.Ythlhlglmkcbgaaa.UnionLeastLaw
open Go.ChangeShapes Go.WideShapes Go.ChangeAt Go.RowKit Go.Proofs.Ythlhlglmkcbgaaa UnionLaw Go.Proofs.Ythlhlglmkcbgaaa.Union Go.Proofs.Ythlhlglmkcbgaaa.Std
set_option linter.unusedSimpArgs false
set_option linter.unusedVariables false

theorem two_roots {f : Nat → Nat} (hf : ∀ i, f i ≤ i) (h : Inv (pn [(1, 0)]) f) : outL f 2 = [0, 0] := by
  have h0 := root_le hf 0
  have h1 : root f 1 = root f 0 := h.1 (1, 0) (by simp [pn])
  simp [outL, List.range_succ]
  omega
/-- the pairs from the last on, turned -/
def back (l : List (Int × Int)) : List (Int × Int) := (l.map fun p => (p.2, p.1)).reverse
theorem back_len (l : List (Int × Int)) : (back l).length = l.length := by simp [back]
theorem back_in {n : Nat} {l : List (Int × Int)} (h : InR n l) : InR n (back l) := by
  intro p hp
  simp only [back, List.mem_reverse, List.mem_map] at hp
  obtain ⟨q, hq, rfl⟩ := hp
  obtain ⟨a, b, c, d⟩ := h q hq
  exact ⟨c, d, a, b⟩
theorem mem_pn {l : List (Int × Int)} {p : Nat × Nat} (h : p ∈ pn l) : (p.2, p.1) ∈ pn (back l) := by
  simp only [pn, List.mem_map] at h ⊢
  obtain ⟨q, hq, rfl⟩ := h
  exact ⟨(q.2, q.1), by simp [back]; exact ⟨_, _, hq, rfl, rfl⟩, rfl⟩
theorem mem_pn' {l : List (Int × Int)} {p : Nat × Nat} (h : p ∈ pn (back l)) : (p.2, p.1) ∈ pn l := by
  simp only [pn, List.mem_map, back, List.mem_reverse] at h ⊢
  obtain ⟨q, ⟨r, hr, rfl⟩, rfl⟩ := h
  exact ⟨r, hr, rfl⟩
theorem same_out {n : Nat} {l : List (Int × Int)} {f g : Nat → Nat} (hf : ∀ i, f i ≤ i) (hg : ∀ i, g i ≤ i) (h : Inv (pn l) f) (k : Inv (pn (back l)) g) : outL f n = outL g n := by
  have := Inv.same hf hg h k (fun p hp => .inr (mem_pn hp)) (fun p hp => .inr (mem_pn' hp))
  unfold outL
  exact List.map_congr_left fun i _ => by rw [this]
theorem back_step (l : List (Int × Int)) (k : Nat) (h : k < l.length) : back (l.drop k) = back (l.drop (k + 1)) ++ [(l[k].2, l[k].1)] := by
  rw [List.drop_eq_getElem_cons h]
  unfold back
  rw [List.map_cons, List.reverse_cons]

theorem infoPair : (Try.prog.info? 46).map (fun i => (i.zero, i.size, i.bytes)) = some (some (.agg #[.int .i64 0, .int .i64 0]), 2, 16) := by kernel_rfl

set_option maxRecDepth 100000 in
set_option maxHeartbeats 4000000 in
theorem walk (w : World) (n : Int) (hn : -9223372036854775808 ≤ n ∧ n ≤ 9223372036854775807) (A : Option Addr) (c : Nat) (l : List (Int × Int)) (hA : Arg w 2 cp A c l) :
    Calls Try.prog 7 #[.int .i64 n, .slice A l.length c] w fun e w' => e = .returned (.bool true) ∧ Below w.heap.size w w' := by
  have hlen : l.length ≤ 9223372036854775807 := Nat.le_trans hA.cap hA.max
  have hs := hA.sl
  obtain ⟨i0, hi, hz0, hz1, hz2⟩ := info_parts infoPair
  have key0 : ∀ (W : World) (g : Nat), Sl W W.heap.size 2 cp (some ⟨g, 0, none⟩) [(1, 0)] → Calls Try.prog 29 #[.int .i64 2, .slice (some ⟨g, 0, none⟩) 1 1] W fun e w' => SomeOf 2 [(1, 0)] W e w' :=
    fun W g h => of_yes 2 (some ⟨g, 0, none⟩) 1 [(1, 0)] W (by omega) (by decide) (by intro p hp; simp at hp; subst hp; decide) h
  have KEY0 := Lib.hid key0
  clear key0
  go_enter Try.func7, Try.ntmps7
  go_wp2_with fail
  refine (KEY0.out _ _ (sl_new (by decide) _ #[.int .i64 1, .int .i64 0] _ _ rfl)).mono ?_
  rintro e w1 ⟨f0, A1, c1, hf0, hinv0, rfl, hown0, hB0⟩
  have hroots := two_roots hf0 hinv0
  have hB1 : Below w.heap.size w w1 := ((Below.refl _ _).alloc (Nat.le_refl _) _).trans (hB0.mono (by simp))
  rw [hroots] at hown0
  have hsl0 := hown0.sl.2
  clear hroots hinv0 hf0
  go_wp2_with fail
  refine (equal_int' _ _ _ _ _ _ [0, 0] [0, 0] _ _ _ (hsl0.keep ((Below.refl _ _).alloc (Nat.le_refl _) _) (Nat.le_refl _)) (sl_new (by decide) _ #[.int .i64 0, .int .i64 0] _ _ rfl) rfl rfl (by decide) true (by decide)).mono ?_
  rintro e w2 ⟨rfl, k2, rfl⟩
  have hB2 : Below w.heap.size w ((w1.alloc (.cells #[.int .i64 0, .int .i64 0] 3)).drewN k2) := below_drewN (hB1.alloc hB1.size _) k2
  clear hsl0 hown0
  have hs2 := hs.keep hB2 (Nat.le_refl _)
  by_cases hok : 0 ≤ n ∧ n ≤ 64 ∧ l.length ≤ 600 ∧ InR n.toNat l
  · obtain ⟨h1, h2, h3, h4⟩ := hok
    obtain ⟨n, rfl⟩ := Int.eq_ofNat_of_zero_le h1
    have hn64 : n ≤ 64 := by omega
    have hin : InR n l := by simpa using h4
    clear h4 h1 h2 hlen
    go_wp2_with fail
    refine (of_yes n A c l _ hn64 h3 hin (hs2.more (by have := hB2.size; omega))).mono ?_
    rintro e w3 ⟨f, A2, c2, hf, hinv, rfl, hown, hB3⟩
    have hBw3 : Below w.heap.size w w3 := hB2.trans (hB3.mono (by have := hB2.size; omega))
    have hs3 := hs.keep hBw3 (Nat.le_refl _)
    have hsl := hown.sl.2
    have hroot := root_le hf
    have HF := Lib.hid hf
    have HINV := Lib.hid hinv
    have HR := Lib.hid hroot
    clear hf hinv hroot hs2 hs hB3
    go_wp2
    go_loopw [9, 10] (fun o i wr => ∃ (k m : Nat) (A' : Option Addr) (c' : Nat), m + k = l.length ∧ i = .int .i64 ((k : Int) - 1) ∧ o = .slice A' m c' ∧ Own wr w3.heap.size 46 2 cp (.slice A' m c') (back (l.drop k)) ∧ Below w3.heap.size w3 wr) (fun _ i _ => (intOf i + 1).toNat)
    case atStart => exact ⟨l.length, 0, none, 0, by omega, rfl, rfl, by rw [List.drop_length]; exact Own.nil_, Below.refl _ _⟩
    case round =>
      obtain ⟨k, m, A', c', hmk, rfl, rfl, hown', hB'⟩ := hrel
      have hk : k ≤ l.length := by omega
      have hm6 : m ≤ 600 := by omega
      have HMK := Lib.hid hmk
      clear hmk
      by_cases hk0 : 0 < k
      · obtain ⟨k, rfl⟩ : ∃ j, k = j + 1 := ⟨k - 1, by omega⟩
        have hlt : k < l.length := by omega
        obtain ⟨b, off, x, y, rfl, hbB, he, hcf, hct⟩ := Sl.atP (hs3.keep hB' (by have := hBw3.size; omega)) hlt
        have HE := Lib.hid he
        clear he
        have e1 : ((k + 1 : Nat) : Int) - 1 = k := by omega
        rw [e1]
        clear e1
        have hbl : (back (l.drop (k + 1))).length = m := by rw [back_len, List.length_drop]; have := HMK.out; omega
        have BL := Lib.hid hbl
        clear hbl
        go_wp2
        go_region_law (refine step_push _ rfl (.tmp 47) (.tmp 59) _ rfl w3.heap.size 46 i0 _ 2 16 cp Try.underlying43 hi hz0 hz1 hz2 rfl (by decide) _ (back (l.drop (k + 1))) m BL.out rfl (hown'.alloc _) wr.heap.size 1 (y, x) rfl news2 (fun _ _ => one_cp _ _) (by omega) (by omega) (by have := hB'.size; simp; omega) ?_; intro A3 c3 w4 hown3 hgrow3 hat3)
        all_goals
          have hB4 : Below w3.heap.size w3 w4 := by first | exact (hB'.alloc hB'.size _).grown hgrow3 (by have := hB'.size; simp; omega) hown'.lo | exact (hB'.drew.alloc hB'.size _).grown hgrow3 (by have := hB'.size; simp; omega) hown'.lo | exact ((hB'.alloc hB'.size _).drew).grown hgrow3 (by have := hB'.size; simp; omega) hown'.lo
          go_wp2
          go_roundw
          case' rel =>
            refine ⟨k, m + 1, A3, c3, by have := HMK.out; omega, rfl, rfl, ?_, hB4⟩
            rw [back_step l k hlt, HE.out]
            exact hown3
          case' measure => simp [intOf]
      · obtain rfl : k = 0 := by omega
        obtain rfl : m = l.length := by have := HMK.out; omega
        have hbk := hown'.sl.2
        have hbo : Own wr w3.heap.size 46 2 cp (.slice A' l.length c') (back l) := by rw [List.drop_zero] at hown'; exact hown'
        clear hown' HMK
        have hwr : Below w.heap.size w wr := hBw3.trans (hB'.mono (by have := hBw3.size; omega))
        have hslr := hsl.keep hB' (Nat.le_refl _)
        go_wp2_with fail
        refine (of_yes' n A' l.length c' (back l) _ hn64 (by rw [back_len]; exact h3) (back_len l) (back_in hin) hbk).mono ?_
        rintro e w5 ⟨g, A5, c5, hg, hinv5, rfl, hown5, hB5⟩
        have hw5 : Below w.heap.size w w5 := hwr.trans (hB5.mono (by have := hwr.size; omega))
        have hsl5 := hown5.sl.2
        have hsa := hslr.keep hB5 (by have := hB'.size; omega)
        have hsame := same_out (n := n) HF.out hg HINV.out hinv5
        rw [← hsame] at hsl5
        clear hg hinv5 hown5 hsame
        go_wp2_with fail
        refine (equal_int' _ _ _ _ _ _ (outL f n) (outL f n) _ _ _ hsa hsl5 (outL_len f n) (outL_len f n) (by omega) true (by simp)).mono ?_
        rintro e w6 ⟨rfl, k6, rfl⟩
        have hw6 : Below w.heap.size w (w5.drewN k6) := below_drewN hw5 k6
        go_wp2
        go_loop [77] (fun i => ∃ k : Nat, k ≤ n ∧ i = .int .i64 k) (fun i => n - (intOf i).toNat)
        case atStart => exact ⟨0, Nat.zero_le _, rfl⟩
        case round =>
          obtain ⟨k, hk, rfl⟩ := hrel
          have hr := HR.out k
          have hrr := root_root HF.out k
          by_cases hkn : k < n
          · obtain ⟨b1, o1, rfl, hb1, hc1⟩ := hsa.atI (k := k) (by rw [outL_len]; exact hkn)
            obtain ⟨b2, o2, hA2, hb2, hc2⟩ := hsa.atI (k := root f k) (by rw [outL_len]; omega)
            injection hA2 with hA2
            injection hA2 with hA2 hA3
            subst hA2 hA3
            rw [outL_get] at hc1 hc2
            rw [hrr] at hc2
            clear hrr
            generalize root f k = x at hr hc1 hc2
            have h4 : x < n := by omega
            have h5 : ((x : Int) != (x : Int)) = false := by simp
            go_wp2
            go_round
            case rel => exact ⟨k + 1, by omega, by go_num⟩
            case measure => simp [intOf]; omega
          · obtain rfl : k = n := by omega
            go_wp2
            go_ret
            exact ⟨rfl, hw6⟩
  · go_wp2_with fail
    refine (of_no n A c l _ hok hlen (hs2.more (by have := hB2.size; omega))).mono ?_
    rintro e w3 ⟨rfl, hB3⟩
    have hE : Below w.heap.size w w3 := hB2.trans (hB3.mono (by have := hB2.size; omega))
    obtain ⟨g1, g2⟩ := oe_ne n l
    generalize oe n l = er at g1 g2
    clear hok hs2 hs
    go_wp2
    go_ret
    exact ⟨rfl, hE⟩

theorem own : ownKnob Try.prog.godebug = none := by kernel_rfl
theorem laidOut : laidOutB Try.prog = true := by kernel_rfl

set_option maxRecDepth 100000 in
theorem lifted (os : Os) (started : os.Started) (H : Type) (enc : TypeId × Value → H) :
    ReturnsInHanded {} Try.checked os 7 .any (Rows.unionLeastSpec.pre6 enc Try.prog Try.f7 Rows.unionLeastRow.domain false) (Rows.unionLeastSpec.post enc Try.prog Try.f7 false true false false) := by
  refine returnsInHanded_of_change (C := Try.checked) own started (by kernel_rfl) Try.func7
    (ChangeSpec.witness6 (enc := enc) (C := Try.checked) false ⟨#[], #[.int .i64 0, .slice none 0 0], []⟩ 8 (by kernel_rfl) (by kernel_rfl) (by kernel_rfl) (by kernel_rfl)) ?_
  intro W base args ds gs before hval0 hW hcnd _
  have hval : ∀ (j : Nat) t v, Try.f7.params[j]? = some t → args[j]? = some v → Value.okWide Try.prog W .any base t v := hval0
  have hW' := hW
  obtain ⟨p, q, hA0, hV, rfl, hfz, hnd⟩ := hW
  have hA : DataW.TrodAll enc Try.prog W 0 (fun _ => true) true Try.f7.params.toList args.toList ds p := hA0
  rw [Try.params7] at hA hval
  obtain ⟨v0, vs0, d0, ds0, p0, q0, hargs, rfl, rfl, h0, r0⟩ := trodAll_cons hA
  obtain ⟨v1, vs1, d1, ds1, p1, q1, rfl, rfl, rfl, h1, r1⟩ := trodAll_cons r0
  obtain ⟨rfl, rfl, rfl⟩ := trodAll_nil r1
  obtain rfl : args = #[v0, v1] := by cases args; simp_all
  obtain ⟨rfl, rfl⟩ := trodVars_none hV
  obtain ⟨a0, rfl, rfl, rfl, wa0⟩ := open_int Try.underlying3 (hval 0 3 v0 rfl rfl) h0
  obtain ⟨A1, c1, l1, rfl, hA1, hd1, hb1⟩ := open_sl2 Try.underlying43 Try.underlying46 (by kernel_rfl) (by kernel_rfl) Try.underlying3 Try.underlying3 (hval 1 43 v1 rfl rfl) h1
  refine (walk W a0 (wf_bd wa0) A1 c1 l1 hA1).mono fun e W' ⟨he, hB⟩ => ?_
  subst he
  exact ⟨_, rfl, post_of_law laidOut rfl Try.underlying4 rfl (by intro t ht; rw [Try.params7] at ht; simp at ht; rcases ht with rfl | rfl <;> exact ⟨by kernel_rfl, of_decide_eq_true (by kernel_rfl)⟩) hW' rfl hB⟩

theorem holds : Rows.UnionLeastSaid :=
  OpenClaim.holds_of_wide 7 Try.f7 rfl rfl rfl rfl rfl rfl rfl ⟨rfl, rfl, rfl, rfl, rfl⟩ rfl rfl rfl rfl rfl (by kernel_rfl) Try.func7 (by kernel_rfl)
    (of_decide_eq_true (by kernel_rfl)) (by unfold Func.isWrapper; first | (rw [if_pos (by decide +kernel)]; kernel_rfl) | (rw [if_neg (by decide +kernel)]; exact ⟨rfl, rfl⟩))
    (fun os started H enc _ => lifted os started H enc)
#print axioms holds
end Go.Proofs.Ythlhlglmkcbgaaa.UnionLeastLaw
