/- For every net: CompOrder answers true (the order has each knot once, and no edge leads back in it), and the arguments read as before. No condition. -/
import Derived.Test.YtjhnlkmdkjlkdaaRows
import Derived.Test.YtjhnlkmdkjlkdaaOpen
import Derived.Test.YtjhnlkmdkjlkdaaCompOUse
import Derived.Test.YtjhnlkmdkjlkdaaRefs
import Derived.IntWalk
import Derived.Deep.CutRange
namespace Go.Proofs.Ytjhnlkmdkjlkdaa.CompOrderLaw
open Go.ChangeShapes Go.WideShapes Go.ChangeAt Go.RowKit Go.Proofs.Ytjhnlkmdkjlkdaa NetLaw BellLaw CompLaw CompOrd Go.Proofs.Ytjhnlkmdkjlkdaa.Net Go.Proofs.Ytjhnlkmdkjlkdaa.Refs Go.Proofs.Ytjhnlkmdkjlkdaa.Std Go.Proofs.Ytjhnlkmdkjlkdaa.Comp Go.Proofs.Ytjhnlkmdkjlkdaa.CompO
set_option linter.unusedSimpArgs false
set_option linter.unusedVariables false
theorem sl_take' {w : World} {B : Nat} {A : Option Addr} {l : List Int} (h : Sl w B 1 ci A l) (k : Nat) : Sl w B 1 ci A (l.take k) := by
  intro hl
  have h0 : 0 < l.length := by rw [List.length_take] at hl; omega
  obtain ⟨b, o, e, hb, hc⟩ := h h0
  refine ⟨b, o, e, hb, fun i hi j hj => ?_⟩
  rw [List.length_take] at hi
  rw [hc i (by omega) j hj, List.getElem_take]
set_option maxRecDepth 100000 in
set_option maxHeartbeats 4000000 in
theorem walk (w : World) (N : Int) (A : Option Addr) (c : Nat) (l : List E) (hA : Arg w 3 ce A c l) :
    Calls Try.prog 4 #[.agg #[.int .i64 N, .slice A l.length c]] w fun e w' => e = .returned (.bool true) ∧ Below w.heap.size w w' := by
  have hs := hA.sl
  have hll : l.length ≤ 9223372036854775807 := Nat.le_trans hA.cap hA.max
  clear hA
  have hw0 : Below w.heap.size w (w.alloc (.cells #[.int .i64 N, .slice A l.length c] 24)) := (Below.refl _ _).alloc (Nat.le_refl _) _
  have key0 := fun W g h => order_two W g h
  have key1 := fun W A A' c c' B B' h h' => equal_int' A A' 2 2 c c' [0, 1] [0, 1] B B' W h h' rfl rfl (by decide) true (by decide)
  have KEY0 := Lib.hid key0
  have KEY1 := Lib.hid key1
  clear key0 key1
  by_cases hg : NetLaw.Good N l
  · have hN1 := hg.lo
    have hN2 := hg.hi
    have hl6 := hg.len
    have hends := hg.ends
    obtain ⟨n, rfl⟩ := Int.eq_ofNat_of_zero_le (show 0 ≤ N by omega)
    have k5 := fun W h => of_yes n A c l W h hg
    have k6 := fun W h => order_yes n A c l W h hg
    have hone := fun (L M : List Int) (h1 : L.length = n) (h2 : M.length = n) (h3 : ∀ v : Nat, v < n → Lst l v (L.getD v 0)) (h4 : ∀ v : Nat, v < n → Lst l v (M.getD v 0)) => lst_one h1 h2 h3 h4
    have hco := fun (C out : List Int) (hC : C.length = n) (h : ∀ v : Nat, v < n → Lst l v (C.getD v 0)) (ho : Od (fun v => cmf C v = v) n (fun u v => ∃ e ∈ cl (cmf C) l, e.1 = u ∧ e.2.1 = v) out) => co_facts hends hC h ho
    have K5 := Lib.hid k5
    have K6 := Lib.hid k6
    have HONE := Lib.hid hone
    have HCO := Lib.hid hco
    have HE := Lib.hid hends
    clear k5 k6 hg hone hco hends
    go_enter Try.func4, Try.ntmps4
    go_wp2_with fail
    refine (two_any _).mono ?_
    rintro e w1 ⟨g, rfl, own1, hb1⟩
    have B1 : Below (w.heap.size + 1) (w.alloc (.cells #[.int .i64 n, .slice A l.length c] 24)) w1 := hb1.mono (by simp)
    have Z1 : w.heap.size + 1 ≤ w1.heap.size := by have := hb1.size; simp at this; omega
    clear hb1
    go_wp2_with fail
    refine (KEY0.out _ _ own1.sl.2).mono ?_
    rintro e w2 ⟨A2, c2, rfl, own2, hb2⟩
    have B2 := B1.trans (hb2.mono Z1)
    have Z2 : w.heap.size + 1 ≤ w2.heap.size := by have := hb2.size; omega
    clear hb2 own1 B1 Z1
    go_wp2_with fail
    refine (KEY1.out _ _ _ _ _ _ _ (own2.alloc _).sl.2 (sl_new' (by decide) w2 #[.int .i64 0, .int .i64 1] _ _ rfl rfl)).mono ?_
    rintro e w3 ⟨rfl, n3, rfl⟩
    have B3 := below_drewN (B2.alloc Z2 (.cells #[.int .i64 0, .int .i64 1] 3)) n3
    generalize ((w2.alloc (.cells #[.int .i64 0, .int .i64 1] 3)).drewN n3) = w3 at B3 ⊢
    clear own2 B2 Z2
    have hkeep : ∀ wx, Below (w.heap.size + 1) (w.alloc (.cells #[.int .i64 n, .slice A l.length c] 24)) wx → wx.cell? ⟨w.heap.size, 0, none⟩ = some (.int .i64 n) ∧ wx.cell? ⟨w.heap.size, 1, none⟩ = some (.slice A l.length c) ∧ w.heap.size + 1 ≤ wx.heap.size ∧ Sl wx wx.heap.size 3 ce A l ∧ Below w.heap.size w wx := fun wx hx => by
      have hX0 := hw0.trans (hx.mono (Nat.le_succ _))
      have hzx : w.heap.size + 1 ≤ wx.heap.size := by have := hx.size; simpa using this
      obtain ⟨c1, _⟩ := keepAt hx (Nat.lt_succ_self _)
      exact ⟨(c1 0).trans (by simp), (c1 1).trans (by simp), hzx, (hs.keep hX0 (Nat.le_refl _)).more (by omega), hX0⟩
    have HK := Lib.hid hkeep
    clear hkeep hw0 hs
    obtain ⟨q0, q1, z3, sg, H3⟩ := HK.out _ B3
    go_wp2_with fail
    refine (K5.out _ sg).mono ?_
    rintro e w4 ⟨S4, C, rfl, own4, hC4, hC5, hb4⟩
    have B4 := B3.trans (hb4.mono (by omega))
    clear q0 q1 B3 H3 z3 sg
    obtain ⟨q0, q1, z4, sg, H4⟩ := HK.out _ B4
    go_wp2_with fail
    refine (K6.out _ sg).mono ?_
    rintro e w5 ⟨Ao, co, mo, out, C', rfl, own5, hmo, hC6, hC7, hod, hb5⟩
    have hcc := HONE.out C C' hC4.out hC6.out hC5.out hC7.out
    subst hcc
    have cof := Lib.hid (HCO.out C' out hC6.out hC7.out hod.out)
    have B5 := B4.trans (hb5.mono (by omega))
    have OWN4 := Lib.hid (own4.keep hb5)
    have OWN5 := Lib.hid own5
    clear q0 q1 z4 sg H4 B4 own4 own5 hb4 hb5 hC4 hC5 hC7 hod
    obtain ⟨q0, q1, z5, sg, H5⟩ := HK.out _ B5
    have hout64 : mo ≤ 64 := by
      have h1 := cof.out.nd
      have h2 : (out.map Int.toNat).Nodup := by
        rw [List.Nodup, List.pairwise_map]
        refine List.Pairwise.imp_of_mem (fun {x y} hx hy hxy e => hxy ?_) h1
        have a := cof.out.rng x hx
        have b := cof.out.rng y hy
        omega
      have h3 := FloydLaw.nodup_len h2 (k := n) (fun m hm => by
        rw [List.mem_map] at hm
        obtain ⟨y, hy, rfl⟩ := hm
        have b := cof.out.rng y hy
        omega)
      simp only [List.length_map] at h3
      have := hmo.out
      omega
    have hmoc : mo ≤ co := by
      obtain ⟨A', c', hv, hc, _⟩ := OWN5.out.form
      injection hv with _ h1 h2
      have := hmo.out
      omega
    have kcon := fun (W : World) (hW : Below w5.heap.size w5 W) (v : Int) (b : Bool) hb => contains_int Ao co mo out v W.heap.size W ((OWN5.out.sl.2.keep hW (Nat.le_refl _)).more hW.size) hmo.out (by omega) b hb
    have ktak := fun (W : World) (hW : Below w5.heap.size w5 W) (k c' : Nat) (hk : k ≤ mo) (v : Int) (b : Bool) hb => contains_int Ao c' k (out.take k) v W.heap.size W (sl_take' ((OWN5.out.sl.2.keep hW (Nat.le_refl _)).more hW.size) k) (by rw [List.length_take]; have := hmo.out; omega) (by omega) b hb
    have kidx : ∀ (W : World) (hW : Below w5.heap.size w5 W) (v : Int) (hv : v ∈ out), Calls Try.prog 23 #[.slice Ao mo co, .int .i64 v] W fun e w' => e = .returned (.int .i64 (out.idxOf v : Int)) ∧ w' = W := fun W hW v hv => by
      have h := index_int Ao co out v W.heap.size W ((OWN5.out.sl.2.keep hW (Nat.le_refl _)).more hW.size) (by have := hmo.out; omega)
      rw [hmo.out] at h
      refine h.mono ?_
      rintro e w' ⟨i, rfl, hi, rfl⟩
      rw [at_idx hi hv]
      exact ⟨rfl, rfl⟩
    have KCON := Lib.hid kcon
    have KTAK := Lib.hid ktak
    have KIDX := Lib.hid kidx
    have BW := Lib.hid (Below.refl w5.heap.size w5)
    have H5H := Lib.hid H5
    have HKB := Lib.hid B5
    clear kcon ktak kidx sg H5 B5
    have hz8 : w.heap.size < w5.heap.size := by omega
    go_upto_region 9 with fail
    go_loopw [54] (fun i wy => ∃ k : Nat, k ≤ n ∧ i = .int .i64 k ∧ wy = w5) (fun i _ => n - (intOf i).toNat)
    case atStart => exact ⟨0, Nat.zero_le _, rfl, rfl⟩
    case round =>
      obtain ⟨k, hk, rfl, hwr⟩ := hrel
      subst hwr
      by_cases hlt : k < n
      · obtain ⟨c0, _⟩ := own_at1 hC6.out OWN4.out hlt
        have kc := KCON.out wr BW.out k _ (cof.out.mem k hlt)
        generalize C'.getD k 0 = x at *
        have KC := Lib.hid kc
        have hbb : (((k : Int) == x) != ((k : Int) == x)) = false := by simp
        have hbb2 : (((k : Int) == x) == ((k : Int) == x)) = true := by simp
        have hkn : (k : Int) < (n : Int) := by omega
        clear kc
        go_wp2_with fail
        refine KC.out.mono ?_
        rintro e w6 ⟨rfl, hw6⟩
        subst hw6
        go_wp2
        go_roundw
        case' rel => exact ⟨k + 1, by omega, by go_num, by trivial⟩
        case' measure => simp [intOf]; omega
      · obtain rfl : n = k := by omega
        clear hlt hk
        go_upto_region 15 with fail
        go_loopw [69] (fun i wy => ∃ k : Nat, k ≤ mo ∧ i = .int .i64 k ∧ wy = wr) (fun i _ => mo - (intOf i).toNat)
        case atStart => exact ⟨0, Nat.zero_le _, rfl, rfl⟩
        case round =>
          obtain ⟨j, hj, rfl, hwr⟩ := hrel
          subst hwr
          by_cases hlt : j < mo
          · have hjo : j < out.length := by rw [hmo.out]; exact hlt
            obtain ⟨b, off, rfl, hb, hx⟩ := OWN5.out.sl.2.atI hjo
            have kc := KTAK.out wr BW.out j co hj out[j] false (decide_eq_false (mem_take_lt cof.out.nd hjo))
            generalize out[j] = x at *
            have KC := Lib.hid kc
            have hj0 : (0 : Int) ≤ (j : Int) := by omega
            have hj1 : (j : Int) ≤ (mo : Int) := by omega
            have hj2 : (j : Int) < (mo : Int) := by omega
            have hj3 : (j : Int) ≤ (co : Int) := by omega
            clear kc
            go_wp2_with fail
            refine KC.out.mono ?_
            rintro e w6 ⟨rfl, hw6⟩
            subst hw6
            go_wp2
            go_roundw
            case' rel => exact ⟨j + 1, by omega, by go_num, by trivial⟩
            case' measure => simp [intOf]; omega
          · obtain rfl : mo = j := by omega
            clear hlt hj
            obtain ⟨w8, hw8⟩ : ∃ w8, w8 = wr := ⟨_, rfl⟩
            subst hw8
            go_upto_region 21 with fail
            go_loopw [83] (fun i wy => ∃ k : Nat, k ≤ l.length ∧ i = .int .i64 k ∧ Hid (Below w8.heap.size w8 wy)) (fun i _ => l.length - (intOf i).toNat)
            case atStart => exact ⟨0, Nat.zero_le _, rfl, BW⟩
            case round =>
              obtain ⟨m, hm, rfl, HB⟩ := hrel
              clear q0 q1
              have hBx := HKB.out.trans (HB.out.mono (by omega))
              obtain ⟨_, _, _, sg, H9⟩ := HK.out _ hBx
              have H9H := Lib.hid H9
              by_cases hlt : m < l.length
              · obtain ⟨b, off, f, t, ec, rfl, hbB, he, hcf, hct, hcc⟩ := sg.atE hlt
                have hel := List.getElem_mem hlt
                have hen := HE.out _ hel
                have hed := cof.out.edge _ hel
                rw [he] at hen hed
                obtain ⟨f0, f1, t0, t1⟩ := hen
                simp only at f0 f1 t0 t1 hed
                have hin1 := cof.out.cin f f0 f1
                have hin2 := cof.out.cin t t0 t1
                obtain ⟨t, rfl⟩ := Int.eq_ofNat_of_zero_le t0
                obtain ⟨f, rfl⟩ := Int.eq_ofNat_of_zero_le f0
                have htn : t < n := by omega
                have hfn : f < n := by omega
                rw [cmf_at] at hin1 hin2
                rw [cmf_at, cmf_at] at hed
                have hk9 : Below wr.heap.size wr (wr.alloc (.cells #[.int .i64 f, .int .i64 t, .int .i64 ec] 30)) := (Below.refl _ _).alloc (Nat.le_refl _) _
                have HB9 := Lib.hid (HB.out.trans (hk9.mono HB.out.size))
                have EDG := Lib.hid (heap_alloc_new wr (.cells #[.int .i64 f, .int .i64 t, .int .i64 ec] 30))
                have H9A := Lib.hid (H9.alloc H9.size (.cells #[.int .i64 f, .int .i64 t, .int .i64 ec] 30))
                have hzz : wr.heap.size < (wr.alloc (.cells #[.int .i64 f, .int .i64 t, .int .i64 ec] 30)).heap.size := by simp
                clear sg H9 hel he f0 t0 hk9 hBx
                go_upto_region 23 with fail
                obtain ⟨gE, hgE⟩ : ∃ gE, gE = wr.heap.size := ⟨_, rfl⟩
                rw [← hgE] at EDG ⊢
                generalize wr.alloc (.cells #[.int .i64 f, .int .i64 t, .int .i64 ec] 30) = w9 at HB9 EDG H9A hzz ⊢
                have e0 := blk_cell EDG.out 0
                have e1 := blk_cell EDG.out 1
                simp only [List.getElem?_toArray, List.getElem?_cons_zero, List.getElem?_cons_succ] at e0 e1
                obtain ⟨of0, _⟩ := own_at1 hC6.out (OWN4.out.keep HB9.out) hfn
                obtain ⟨of1, _⟩ := own_at1 hC6.out (OWN4.out.keep HB9.out) htn
                have zE := lt_of_block EDG.out
                have zS := ((OWN4.out.keep HB9.out).base_ S4 rfl).2
                have ki1 := fun (k : Nat) => KIDX.out (w9.drewN k) (below_drewN HB9.out k) (C'.getD f 0) hin1
                have ki2 := fun (k : Nat) => KIDX.out (w9.drewN k) (below_drewN HB9.out k) (C'.getD t 0) hin2
                generalize C'.getD f 0 = xf at *
                generalize C'.getD t 0 = xt at *
                generalize out.idxOf xf = i1 at *
                generalize out.idxOf xt = i2 at *
                have hd : decide ((i1 : Int) > (i2 : Int)) = false := decide_eq_false (by omega)
                have hd' : decide ((i2 : Int) < (i1 : Int)) = false := decide_eq_false (by omega)
                have hdn : ¬ ((i2 : Int) < (i1 : Int)) := by omega
                have hft3 : (f : Int) < (n : Int) := by omega
                have htt3 : (t : Int) < (n : Int) := by omega
                have KI1 := Lib.hid ki1
                have KI2 := Lib.hid ki2
                clear ki1 ki2 hgE hcf hct hcc hin1 hin2 hed
                go_quiet ((go_at_call 23; first | (with_reducible exact Calls.quiet_of_same (KI1.out _)) | (with_reducible exact Calls.quiet_of_same (KI2.out _))))
                have HB10 := Lib.hid (below_drewN HB9.out nq)
                go_wp2
                go_roundw
                case' rel => exact ⟨m + 1, by omega, by go_num, HB10⟩
                case' measure => simp [intOf]; omega
              · obtain rfl : m = l.length := by omega
                clear sg H9 hBx
                go_wp2
                go_ret
                exact ⟨rfl, H9H.out⟩
  · have k5 := fun W h => of_no N A c l W h hll (fun h => hg (chk_zero.1 h))
    have k6 := fun W h => order_no N A c l W h hll (fun h => hg (chk_zero.1 h))
    have hne : (chk N l != 0) = true := by rw [bne_iff_ne]; exact fun h => hg (chk_zero.1 h)
    generalize chk N l = er at *
    have hee : (er == er) = true := by simp
    have K5 := Lib.hid k5
    have K6 := Lib.hid k6
    clear k5 k6 hg
    go_enter Try.func4, Try.ntmps4
    go_wp2_with fail
    refine (two_any _).mono ?_
    rintro e w1 ⟨g, rfl, own1, hb1⟩
    have B1 : Below (w.heap.size + 1) (w.alloc (.cells #[.int .i64 N, .slice A l.length c] 24)) w1 := hb1.mono (by simp)
    have Z1 : w.heap.size + 1 ≤ w1.heap.size := by have := hb1.size; simp at this; omega
    clear hb1
    go_wp2_with fail
    refine (KEY0.out _ _ own1.sl.2).mono ?_
    rintro e w2 ⟨A2, c2, rfl, own2, hb2⟩
    have B2 := B1.trans (hb2.mono Z1)
    have Z2 : w.heap.size + 1 ≤ w2.heap.size := by have := hb2.size; omega
    clear hb2 own1 B1 Z1
    go_wp2_with fail
    refine (KEY1.out _ _ _ _ _ _ _ (own2.alloc _).sl.2 (sl_new' (by decide) w2 #[.int .i64 0, .int .i64 1] _ _ rfl rfl)).mono ?_
    rintro e w3 ⟨rfl, n3, rfl⟩
    have B3 := below_drewN (B2.alloc Z2 (.cells #[.int .i64 0, .int .i64 1] 3)) n3
    generalize ((w2.alloc (.cells #[.int .i64 0, .int .i64 1] 3)).drewN n3) = w3 at B3 ⊢
    clear own2 B2 Z2
    have hkeep : ∀ wx, Below (w.heap.size + 1) (w.alloc (.cells #[.int .i64 N, .slice A l.length c] 24)) wx → wx.cell? ⟨w.heap.size, 0, none⟩ = some (.int .i64 N) ∧ wx.cell? ⟨w.heap.size, 1, none⟩ = some (.slice A l.length c) ∧ w.heap.size + 1 ≤ wx.heap.size ∧ Sl wx wx.heap.size 3 ce A l ∧ Below w.heap.size w wx := fun wx hx => by
      have hX0 := hw0.trans (hx.mono (Nat.le_succ _))
      have hzx : w.heap.size + 1 ≤ wx.heap.size := by have := hx.size; simpa using this
      obtain ⟨c1, _⟩ := keepAt hx (Nat.lt_succ_self _)
      exact ⟨(c1 0).trans (by simp), (c1 1).trans (by simp), hzx, (hs.keep hX0 (Nat.le_refl _)).more (by omega), hX0⟩
    have HK := Lib.hid hkeep
    clear hkeep hw0 hs
    obtain ⟨q0, q1, z3, sg, H3⟩ := HK.out _ B3
    go_wp2_with fail
    refine (K5.out _ sg).mono ?_
    rintro e w4 ⟨rfl, hb4⟩
    have B4 := B3.trans (hb4.mono (by omega))
    clear q0 q1 B3 H3 z3 sg hb4
    obtain ⟨q0, q1, z4, sg, H4⟩ := HK.out _ B4
    go_wp2_with fail
    refine (K6.out _ sg).mono ?_
    rintro e w5 ⟨rfl, hb5⟩
    have H5 := H4.trans (hb5.mono (by omega))
    clear hb5 B4 H4 z4 q0 q1 sg
    go_wp2
    go_ret
    exact ⟨rfl, H5⟩

theorem own : ownKnob Try.prog.godebug = none := by kernel_rfl
theorem laidOut : laidOutB Try.prog = true := by kernel_rfl

set_option maxRecDepth 100000 in
theorem lifted (os : Os) (started : os.Started) (H : Type) (enc : TypeId × Value → H) :
    ReturnsInHanded {} Try.checked os 4 .any (Rows.compOrderSpec.pre6 enc Try.prog Try.f4 Rows.compOrderRow.domain false) (Rows.compOrderSpec.post enc Try.prog Try.f4 false true false false) := by
  refine returnsInHanded_of_change (C := Try.checked) own started (by kernel_rfl) Try.func4
    (ChangeSpec.witness6 (enc := enc) (C := Try.checked) false ⟨#[], #[.agg #[.int .i64 0, .slice none 0 0]], []⟩ 8 (by kernel_rfl) (by kernel_rfl) (by kernel_rfl) (by kernel_rfl)) ?_
  intro W base args ds gs before hval0 hW hcnd _
  have hval : ∀ (j : Nat) t v, Try.f4.params[j]? = some t → args[j]? = some v → Value.okWide Try.prog W .any base t v := hval0
  have hW' := hW
  obtain ⟨p, q, hA0, hV, rfl, hfz, hnd⟩ := hW
  have hA : DataW.TrodAll enc Try.prog W 0 (fun _ => true) true Try.f4.params.toList args.toList ds p := hA0
  rw [Try.params4] at hA hval
  obtain ⟨v0, vs0, d0, ds0, p0, q0, hargs, rfl, rfl, h0, r0⟩ := trodAll_cons hA
  obtain ⟨rfl, rfl, rfl⟩ := trodAll_nil r0
  obtain rfl : args = #[v0] := by cases args; simp_all
  obtain ⟨rfl, rfl⟩ := trodVars_none hV
  obtain ⟨N0, A0, c0, l0, dd0, rfl, hN0, hG0, hb0, rfl, hd0⟩ := open_net Try.underlying24 (by kernel_rfl) (by kernel_rfl) Try.underlying3 Try.underlying22 Try.underlying30 (by kernel_rfl) (by kernel_rfl) Try.underlying3 Try.underlying3 Try.underlying3 (hval 0 24 v0 rfl rfl) h0
  refine (walk W N0 A0 c0 l0 hG0).mono fun e W' ⟨he, hB⟩ => ?_
  subst he
  exact ⟨_, rfl, post_of_law laidOut rfl Try.underlying4 rfl (by intro t ht; rw [Try.params4] at ht; simp at ht; subst ht <;> exact ⟨by kernel_rfl, of_decide_eq_true (by kernel_rfl)⟩) hW' rfl hB⟩

theorem holds : Rows.CompOrderSaid :=
  OpenClaim.holds_of_wide 4 Try.f4 rfl rfl rfl rfl rfl rfl rfl ⟨rfl, rfl, rfl, rfl, rfl⟩ rfl rfl rfl rfl rfl (by kernel_rfl) Try.func4 (by kernel_rfl)
    (of_decide_eq_true (by kernel_rfl)) (by unfold Func.isWrapper; first | (rw [if_pos (by decide +kernel)]; kernel_rfl) | (rw [if_neg (by decide +kernel)]; exact ⟨rfl, rfl⟩))
    (fun os started H enc _ => lifted os started H enc)
#print axioms holds
end Go.Proofs.Ytjhnlkmdkjlkdaa.CompOrderLaw
