/- The walks of net.Pos, dijk.Look and dijk.Dist. -/
import Derived.Test.YtjebckehmmbkbaaVDijkRun
namespace Go.Proofs.Ytjebckehmmbkbaa.Dijk
open Go.RowKit Go.Proofs.Ytjebckehmmbkbaa NetLaw BellLaw DijkLaw HeapLaw Go.Proofs.Ytjebckehmmbkbaa.Net Go.Proofs.Ytjebckehmmbkbaa.Heap Go.Proofs.Ytjebckehmmbkbaa.Std
set_option linter.unusedSimpArgs false
set_option linter.unusedVariables false

/-- the first cost below 1 -/
def posE : List E → Int
  | [] => 0
  | e :: r => if e.2.2 < 1 then 4 else posE r
def pos (N : Int) (l : List E) : Int := if chk N l ≠ 0 then chk N l else posE l
/-- the first place that is none -/
def lookE (N : Int) : List Int → Int
  | [] => 0
  | v :: r => if v < 0 ∨ N ≤ v then 1 else lookE N r
def look (N : Int) (l : List E) (ps : List Int) : Int := if pos N l ≠ 0 then pos N l else lookE N ps
theorem posE_drop (l : List E) (k : Nat) (h : k < l.length) : posE (l.drop k) = if l[k].2.2 < 1 then 4 else posE (l.drop (k + 1)) := by rw [List.drop_eq_getElem_cons h]; rfl
theorem lookE_drop (N : Int) (l : List Int) (k : Nat) (h : k < l.length) : lookE N (l.drop k) = if l[k] < 0 ∨ N ≤ l[k] then 1 else lookE N (l.drop (k + 1)) := by rw [List.drop_eq_getElem_cons h]; rfl
theorem posE_zero {l : List E} (h : posE l = 0) : ∀ e ∈ l, 1 ≤ e.2.2 := by
  induction l with
  | nil => simp
  | cons e r ih =>
    rw [posE] at h
    split at h
    · omega
    · intro x hx
      rcases List.mem_cons.1 hx with rfl | hx
      · omega
      · exact ih h x hx
theorem pos_zero {N : Int} {l : List E} (h : pos N l = 0) : NetLaw.Good N l ∧ ∀ e ∈ l, 1 ≤ e.2.2 := by
  unfold pos at h
  split at h
  · rename_i h1; exact absurd h h1
  · rename_i h1; exact ⟨chk_zero.1 (by simpa using h1), posE_zero h⟩

set_option maxHeartbeats 1000000 in
theorem pos_any (N : Int) (A : Option Addr) (c : Nat) (l : List E) (w : World) (hl : Sl w w.heap.size 3 ce A l) (hlen : l.length ≤ 9223372036854775807) :
    Calls Try.prog 28 #[.agg #[.int .i64 N, .slice A l.length c]] w fun e w' => e = .returned (.int .i64 (pos N l)) ∧ Below w.heap.size w w' := by
  have hw0 : Below w.heap.size w (w.alloc (.cells #[.int .i64 N, .slice A l.length c] 24)) := (Below.refl _ _).alloc (Nat.le_refl _) _
  have key := check_any N A c l _ ((hl.keep hw0 (Nat.le_refl _)).more (show w.heap.size ≤ (w.alloc (.cells #[.int .i64 N, .slice A l.length c] 24)).heap.size by simp)) hlen
  by_cases hg : chk N l = 0
  · have hp : pos N l = posE l := by rw [pos, if_neg (by simpa using hg)]
    have h6 := (chk_zero.1 hg).len
    rw [hg] at key
    have KEY := Lib.hid key
    have HP := Lib.hid hp
    clear key hp hg hlen
    go_enter Try.func28, Try.ntmps28
    go_wp2_with fail
    refine KEY.out.mono ?_
    rintro e w1 ⟨rfl, hb1⟩
    have B1 : Below (w.heap.size + 1) _ w1 := hb1.mono (by simp)
    have H1 := hw0.trans (B1.mono (Nat.le_succ _))
    have Z1 : w.heap.size + 1 ≤ w1.heap.size := by have := hb1.size; simp at this; omega
    obtain ⟨cc, _⟩ := keepAt B1 (Nat.lt_succ_self _)
    have q0 := cc 0
    have q1 := cc 1
    simp at q0 q1
    clear cc hb1 B1
    go_wp2
    go_loopw [14] (fun i wr => ∃ k : Nat, k ≤ l.length ∧ i = .int .i64 k ∧ posE l = posE (l.drop k) ∧ Below w.heap.size w wr) (fun i _ => l.length - (intOf i).toNat)
    case atStart => exact ⟨0, Nat.zero_le _, rfl, rfl, H1⟩
    case round =>
      obtain ⟨k, hk, rfl, hpe, hB⟩ := hrel
      have hz := hB.size
      by_cases hlt : k < l.length
      · obtain ⟨b, off, f, t, co, rfl, hbB, he, hcf, hct, hcc⟩ := (hl.keep hB (Nat.le_refl _)).atE hlt
        have hst := posE_drop l k hlt
        rw [← hpe, he] at hst
        have HST := Lib.hid hst
        have hE := hB.alloc hz (.cells #[.int .i64 f, .int .i64 t, .int .i64 co] 48)
        clear hst hpe he
        by_cases hlo : co < 1
        · have hfin : pos N l = 4 := by rw [HP.out, HST.out, if_pos hlo]
          have HF := Lib.hid hfin
          clear hfin
          go_wp2
          go_ret
          exact ⟨ret_int HF.out.symm, hE⟩
        · go_wp2
          go_roundw
          case rel => exact ⟨k + 1, by omega, by go_num, by rw [HST.out, if_neg hlo], hE⟩
          case measure => simp [intOf]; omega
      · obtain rfl : k = l.length := by omega
        have hfin : pos N l = 0 := by rw [HP.out, hpe, List.drop_length]; rfl
        have HF := Lib.hid hfin
        clear hfin hpe hl
        go_wp2
        go_ret
        exact ⟨ret_int HF.out.symm, hB⟩
  · have hp : pos N l = chk N l := by rw [pos, if_pos hg]
    have hne : (chk N l != 0) = true := by rw [bne_iff_ne]; exact hg
    rw [hp]
    clear hp
    generalize chk N l = x at *
    have KEY := Lib.hid key
    clear key hg hl
    go_enter Try.func28, Try.ntmps28
    go_wp2_with fail
    refine KEY.out.mono ?_
    rintro e w1 ⟨rfl, hb1⟩
    have H1 := hw0.trans (hb1.mono (by simp))
    clear hb1
    go_wp2
    go_ret
    exact ⟨rfl, H1⟩

set_option maxHeartbeats 1000000 in
theorem look_any (N : Int) (A : Option Addr) (c : Nat) (l : List E) (A' : Option Addr) (c' m : Nat) (ps : List Int) (w : World) (hl : Sl w w.heap.size 3 ce A l) (hp : Sl w w.heap.size 1 ci A' ps) (hm : ps.length = m) (hlen : l.length ≤ 9223372036854775807) (hlen' : m ≤ 9223372036854775807) :
    Calls Try.prog 11 #[.agg #[.int .i64 N, .slice A l.length c], .slice A' m c'] w fun e w' => e = .returned (.int .i64 (look N l ps)) ∧ Below w.heap.size w w' := by
  subst hm
  have hw0 : Below w.heap.size w (w.alloc (.cells #[.int .i64 N, .slice A l.length c] 24)) := (Below.refl _ _).alloc (Nat.le_refl _) _
  have key := pos_any N A c l _ ((hl.keep hw0 (Nat.le_refl _)).more (show w.heap.size ≤ (w.alloc (.cells #[.int .i64 N, .slice A l.length c] 24)).heap.size by simp)) hlen
  by_cases hg : pos N l = 0
  · have hq : look N l ps = lookE N ps := by rw [look, if_neg (by simpa using hg)]
    rw [hg] at key
    have KEY := Lib.hid key
    have HP := Lib.hid hq
    clear key hq hg hlen
    go_enter Try.func11, Try.ntmps11
    go_wp2_with fail
    refine KEY.out.mono ?_
    rintro e w1 ⟨rfl, hb1⟩
    have B1 : Below (w.heap.size + 1) _ w1 := hb1.mono (by simp)
    have H1 := hw0.trans (B1.mono (Nat.le_succ _))
    obtain ⟨cc, _⟩ := keepAt B1 (Nat.lt_succ_self _)
    have q0 := cc 0
    have q1 := cc 1
    simp at q0 q1
    have slp := hp.keep H1 (Nat.le_refl _)
    clear cc hb1 B1
    go_wp2
    go_loopw [15] (fun i wr => ∃ k : Nat, k ≤ ps.length ∧ i = .int .i64 k ∧ lookE N ps = lookE N (ps.drop k) ∧ w1 = wr) (fun i _ => ps.length - (intOf i).toNat)
    case atStart => exact ⟨0, Nat.zero_le _, rfl, rfl, rfl⟩
    case round =>
      obtain ⟨k, hk, rfl, hpe, rfl⟩ := hrel
      by_cases hlt : k < ps.length
      · obtain ⟨b, off, rfl, hbB, hx⟩ := slp.atI hlt
        have hst := lookE_drop N ps k hlt
        rw [← hpe] at hst
        generalize ps[k] = x at *
        have HST := Lib.hid hst
        clear hst hpe
        by_cases hlo : x < 0
        · have hfin : look N l ps = 1 := by rw [HP.out, HST.out, if_pos (.inl hlo)]
          have HF := Lib.hid hfin
          clear hfin
          go_wp2
          go_ret
          exact ⟨ret_int HF.out.symm, H1⟩
        · by_cases hhi : N ≤ x
          · have hfin : look N l ps = 1 := by rw [HP.out, HST.out, if_pos (.inr hhi)]
            have HF := Lib.hid hfin
            clear hfin
            go_wp2
            go_ret
            exact ⟨ret_int HF.out.symm, H1⟩
          · have hno : ¬ (x < 0 ∨ N ≤ x) := by omega
            have HNO := Lib.hid hno
            clear hno
            go_wp2
            go_roundw
            case rel => exact ⟨k + 1, by omega, by go_num, by rw [HST.out, if_neg HNO.out], by trivial⟩
            case measure => simp [intOf]; omega
      · obtain rfl : k = ps.length := by omega
        have hfin : look N l ps = 0 := by rw [HP.out, hpe, List.drop_length]; rfl
        have HF := Lib.hid hfin
        clear hfin hpe slp
        go_wp2
        go_ret
        exact ⟨ret_int HF.out.symm, H1⟩
  · have hq : look N l ps = pos N l := by rw [look, if_pos hg]
    have hne : (pos N l != 0) = true := by rw [bne_iff_ne]; exact hg
    rw [hq]
    clear hq
    generalize pos N l = x at *
    have KEY := Lib.hid key
    clear key hg hl hp
    go_enter Try.func11, Try.ntmps11
    go_wp2_with fail
    refine KEY.out.mono ?_
    rintro e w1 ⟨rfl, hb1⟩
    have H1 := hw0.trans (hb1.mono (by simp))
    clear hb1
    go_wp2
    go_ret
    exact ⟨rfl, H1⟩
/-- what Dist answers -/
def DistSays (N : Int) (l : List E) (fr : Int) (w : World) (e : Ending) (w' : World) : Prop :=
  (look N l [fr] ≠ 0 → e = .returned (.tuple #[.slice none 0 0, .int .i64 (look N l [fr])])) ∧
  (look N l [fr] = 0 → ∃ S D, e = .returned (.tuple #[.slice (some ⟨S, 0, none⟩) N.toNat N.toNat, .int .i64 0]) ∧ Own w' w.heap.size 3 1 ci (.slice (some ⟨S, 0, none⟩) N.toNat N.toNat) D ∧ Sh N fr l D) ∧ Below w.heap.size w w'
theorem look_zero {N : Int} {l : List E} {fr : Int} (h : look N l [fr] = 0) : NetLaw.Good N l ∧ (∀ e ∈ l, 1 ≤ e.2.2) ∧ 0 ≤ fr ∧ fr < N := by
  unfold look at h
  split at h
  · rename_i h1; exact absurd h h1
  · rename_i h1
    obtain ⟨a, b⟩ := pos_zero (by simpa using h1)
    simp only [lookE] at h
    split at h
    · omega
    · rename_i h2
      exact ⟨a, b, by omega, by omega⟩

set_option maxHeartbeats 1000000 in
theorem dist_any (N : Int) (A : Option Addr) (c : Nat) (l : List E) (fr : Int) (w : World) (hl : Sl w w.heap.size 3 ce A l) (hlen : l.length ≤ 9223372036854775807) :
    Calls Try.prog 7 #[.agg #[.int .i64 N, .slice A l.length c], .int .i64 fr] w fun e w' => DistSays N l fr w e w' := by
  have hw0 : Below w.heap.size w ((w.alloc (.cells #[.int .i64 N, .slice A l.length c] 24)).alloc (.cells #[.int .i64 fr] 3)) := ((Below.refl _ _).alloc (Nat.le_refl _) _).alloc (by simp) _
  have hz0 : w.heap.size ≤ ((w.alloc (.cells #[.int .i64 N, .slice A l.length c] 24)).alloc (.cells #[.int .i64 fr] 3)).heap.size := by simp; omega
  have hbox := blk_alloc (heap_alloc_new w (.cells #[.int .i64 N, .slice A l.length c] 24)) (.cells #[.int .i64 fr] 3)
  have key := look_any N A c l (some ⟨w.heap.size + 1, 0, none⟩) 1 1 [fr] _ ((hl.keep hw0 (Nat.le_refl _)).more hz0) (sl_new' (by decide) (w.alloc (.cells #[.int .i64 N, .slice A l.length c] 24)) #[.int .i64 fr] 3 [fr] (by simp) rfl) rfl hlen (by decide)
  by_cases hx : look N l [fr] = 0
  · obtain ⟨hg, hc, f0, f1⟩ := look_zero hx
    rw [hx] at key
    have h1 := hg.lo
    obtain ⟨n, rfl⟩ := Int.eq_ofNat_of_zero_le (show 0 ≤ N by omega)
    obtain ⟨f, rfl⟩ := Int.eq_ofNat_of_zero_le f0
    have krun := fun W hs => run_any n f A c l W hs hg (by omega) (fun e he => by have := hc e he; omega)
    have KEY := Lib.hid key
    have KRUN := Lib.hid krun
    have HX := Lib.hid hx
    have HBOX := Lib.hid hbox
    clear key krun hx hbox hg hc
    go_enter Try.func7, Try.ntmps7
    go_wp2_with fail
    refine KEY.out.mono ?_
    rintro e w1 ⟨rfl, hb1⟩
    have H1 := hw0.trans (hb1.mono hz0)
    have hb := blk_below HBOX.out hb1 (by simp; omega)
    have q0 := blk_cell hb 0
    have q1 := blk_cell hb 1
    simp only [List.getElem?_toArray, List.getElem?_cons_zero, List.getElem?_cons_succ] at q0 q1
    clear hb hb1
    go_wp2_with fail
    refine (KRUN.out _ ((hl.keep H1 (Nat.le_refl _)).more H1.size)).mono ?_
    rintro e w2 ⟨S, D, rfl, ho, hsh, hb2⟩
    have HO := Lib.hid ho
    have HSH := Lib.hid hsh
    have H2 := H1.trans (hb2.mono H1.size)
    have hz1 := H1.size
    clear ho hsh hb2 hl q0 q1
    go_wp2
    go_ret2
    refine ⟨fun h => absurd HX.out h, fun _ => ⟨S, D, ?_, ?_, HSH.out⟩, H2⟩
    · simp
    · rw [Int.toNat_natCast]; exact HO.out.mono hz1
  · have hne : (look N l [fr] != 0) = true := by rw [bne_iff_ne]; exact hx
    unfold DistSays
    generalize look N l [fr] = x at *
    have KEY := Lib.hid key
    clear key hl hbox
    go_enter Try.func7, Try.ntmps7
    go_wp2_with fail
    refine KEY.out.mono ?_
    rintro e w1 ⟨rfl, hb1⟩
    have H1 := hw0.trans (hb1.mono hz0)
    clear hb1
    go_wp2
    go_ret2
    exact ⟨fun _ => rfl, fun h => absurd h hx, H1⟩
end Go.Proofs.Ytjebckehmmbkbaa.Dijk
