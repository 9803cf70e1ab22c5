/- The walks of union.Of and union.Many. -/
import Derived.Test.YtdpjbjgecmnmnaaUnionWalks
namespace Go.Proofs.Ytdpjbjgecmnmnaa.Union
open Go.RowKit Go.Proofs.Ytdpjbjgecmnmnaa UnionLaw
set_option linter.unusedSimpArgs false
set_option linter.unusedVariables false

theorem Grp.alloc {w : World} {B G : Nat} {v : Value} {L : List Nat} (h : Grp w B G v L) (o : Obj) : Grp (w.alloc o) B G v L :=
  ⟨h.base, (Below.heap_alloc _ _ _ h.lt).trans h.blk, h.row.alloc o⟩
/-- the pairs as places -/
def pn (l : List (Int × Int)) : List (Nat × Nat) := l.map fun p => (p.1.toNat, p.2.toNat)
/-- the first of each -/
def outL (f : Nat → Nat) (n : Nat) : List Int := (List.range n).map fun i => ((root f i : Nat) : Int)
theorem outL_len (f : Nat → Nat) (n : Nat) : (outL f n).length = n := by simp [outL]
theorem outL_succ (f : Nat → Nat) (n : Nat) : outL f (n + 1) = outL f n ++ [((root f n : Nat) : Int)] := by simp [outL, List.range_succ]
/-- all pairs within the numbers -/
def InR (n : Nat) (l : List (Int × Int)) : Prop := ∀ p ∈ l, 0 ≤ p.1 ∧ p.1 < n ∧ 0 ≤ p.2 ∧ p.2 < n
def SomeOf (n : Nat) (l : List (Int × Int)) (w : World) (e : Ending) (w' : World) : Prop :=
  ∃ f A c, (∀ i, f i ≤ i) ∧ Inv (pn l) f ∧ e = .returned (.tuple #[.slice A n c, .int .i64 0]) ∧ Own w' w.heap.size 3 1 ci (.slice A n c) (outL f n) ∧ Below w.heap.size w w'

theorem Sl.atP {w : World} {B : Nat} {A : Option Addr} {l : List (Int × Int)} (h : Sl w B 2 cp A l) {k : Nat} (hk : k < l.length) :
    ∃ b off f t, A = some ⟨b, off, none⟩ ∧ b < B ∧ l[k] = (f, t) ∧ w.cell? ⟨b, off + k * 2, none⟩ = some (.int .i64 f) ∧ w.cell? ⟨b, off + k * 2 + 1, none⟩ = some (.int .i64 t) := by
  obtain ⟨b, off, hA, hlt, hc⟩ := h (by omega)
  exact ⟨b, off, _, _, hA, hlt, rfl, hc k hk 0 (by omega), hc k hk 1 (by omega)⟩
theorem range_fn (n i : Nat) : fn (List.range n) i = i := by
  unfold fn
  rcases Nat.lt_or_ge i n with h | h
  · simp [h]
  · simp [h]
theorem down_range (n : Nat) : Down (List.range n) := fun i => by rw [range_fn]; exact Nat.le_refl _
theorem inv_range (n : Nat) : Inv [] (fn (List.range n)) := inv_nil.congr fun i => by rw [root_fix (range_fn n i), root_fix rfl]

set_option maxRecDepth 100000 in
set_option maxHeartbeats 4000000 in
theorem of_yes (n : Nat) (A : Option Addr) (c : Nat) (l : List (Int × Int)) (w : World) (hn : n ≤ 64) (hl : l.length ≤ 600) (hp : InR n l) (hs : Sl w w.heap.size 2 cp A l) :
    Calls Try.prog 42 #[.int .i64 (n : Int), .slice A l.length c] w fun e w' => SomeOf n l w e w' := by
  obtain ⟨i0, hi, hz0, hz1, hz2⟩ := info_parts infoInt
  go_enter Try.func42, Try.ntmps42
  go_wp2_with fail
  refine (new_any n _ hn).mono ?_
  rintro e w1 ⟨G, v, rfl, hg, hB⟩
  go_wp2
  go_loopw [24] (fun i wr => ∃ (k : Nat) (L : List Nat), k ≤ l.length ∧ i = .int .i64 k ∧ Grp wr w.heap.size G v L ∧ Down L ∧ L.length = n ∧ Inv ((pn l).take k) (fn L) ∧ Below w.heap.size w wr) (fun i _ => l.length - (intOf i).toNat)
  case atStart => exact ⟨0, List.range n, Nat.zero_le _, rfl, hg, down_range n, List.length_range, by rw [List.take_zero]; exact inv_range n, hB⟩
  case round =>
    obtain ⟨k, L, hk, rfl, hG, hd, hlen, hinv, hb⟩ := hrel
    have HLEN := Lib.hid hlen
    clear hlen
    by_cases hlt : k < l.length
    · obtain ⟨b, off, f, t, rfl, hbB, he, hcf, hct⟩ := Sl.atP (hs.keep hb (Nat.le_refl _)) hlt
      have hpr := hp l[k] (List.getElem_mem hlt)
      rw [he] at hpr
      obtain ⟨p1, p2, p3, p4⟩ := hpr
      simp only at p1 p2 p3 p4
      obtain ⟨f, rfl⟩ := Int.eq_ofNat_of_zero_le p1
      obtain ⟨t, rfl⟩ := Int.eq_ofNat_of_zero_le p3
      have hstep : (pn l).take (k + 1) = (pn l).take k ++ [(f, t)] := by
        rw [List.take_succ_eq_append_getElem (by simp [pn]; exact hlt)]
        simp [pn, he]
      have HS := Lib.hid hstep
      have HE := Lib.hid he
      clear hstep he
      have hsz := hG.lt
      go_wp2_with fail
      refine (join_any w.heap.size G f t v L _ (hG.alloc _) hd (by rw [HLEN.out]; omega) (by rw [HLEN.out]; omega) (by rw [HLEN.out]; omega)).mono ?_
      rintro e w2 ⟨rfl, L2, hJ⟩
      have hB2 : Below w.heap.size w w2 := (hb.alloc hb.size _).grown hJ.only (by have := hb.size; simp; omega) (own_base hG.row)
      go_wp2
      go_roundw
      case rel =>
        refine ⟨k + 1, L2, by omega, by go_num, hJ.grp, hJ.down, hJ.len.trans HLEN.out, ?_, hB2⟩
        rw [HS.out]
        exact (hinv.join hd f t).congr fun j => by rw [hJ.root, root_join hd (root_is hd f) (root_is hd t)]
      case measure => simp [intOf]; omega
    · obtain rfl : k = l.length := by omega
      have hinv2 : Inv (pn l) (fn L) := by
        rw [List.take_of_length_le (by simp [pn])] at hinv
        exact hinv
      clear hinv hs hp
      go_wp2
      go_loopw [9, 56] (fun o i wr => ∃ (k : Nat) (L' : List Nat) (A' : Option Addr) (c' : Nat), k ≤ n ∧ i = .int .i64 k ∧ o = .slice A' k c' ∧ Grp wr w.heap.size G v L' ∧ Down L' ∧ L'.length = n ∧ (∀ j, root (fn L') j = root (fn L) j) ∧
          Own wr w.heap.size 3 1 ci (.slice A' k c') (outL (fn L) k) ∧ ((Value.slice A' k c').ownBlock = none ∨ (Value.slice A' k c').ownBlock ≠ v.ownBlock) ∧ Below w.heap.size w wr) (fun _ i _ => n - (intOf i).toNat)
      case atStart => exact ⟨0, L, none, 0, Nat.zero_le _, rfl, rfl, hG, hd, HLEN.out, fun _ => rfl, Own.nil_, .inl rfl, hb⟩
      case round =>
        obtain ⟨k, L', A', c', hk, rfl, rfl, hG', hd', hlen', hroot', hown, hne, hb'⟩ := hrel
        have HLEN' := Lib.hid hlen'
        have HR' := Lib.hid hroot'
        clear hlen' hroot'
        by_cases hlt : k < n
        · have key := find_any w.heap.size G k v L' wr hG' hd' (by rw [HLEN'.out]; exact hlt) (by rw [HLEN'.out]; exact hn)
          rw [HR'.out] at key
          obtain ⟨x, hx⟩ : ∃ x, x = root (fn L) k := ⟨_, rfl⟩
          rw [← hx] at key
          have HX := Lib.hid hx
          have KEY := Lib.hid key
          clear key hx
          go_wp2_with fail
          refine KEY.out.mono ?_
          rintro e w2 ⟨rfl, L2, hK⟩
          have hown2 : Own w2 w.heap.size 3 1 ci (.slice A' k c') (outL (fn L) k) := hown.kept hK.only hne
          have hB2 : Below w.heap.size w w2 := hb'.grown hK.only hb'.size (own_base hG'.row)
          have hlo := outL_len (fn L) k
          have HLO := Lib.hid hlo
          clear hlo
          go_wp2_with (at_builtin; refine wpList_push _ rfl (.tmp 59) (.tmp 63) _ rfl w.heap.size 3 i0 (.int .i64 0) 1 8 ci Try.underlying25 hi hz0 hz1 hz2 rfl (by decide) _ (outL (fn L) k) k HLO.out rfl (hown2.alloc _) w2.heap.size 1 (x : Int) rfl news1 (fun _ _ => rfl) (by omega) (by omega) (by have := hB2.size; simp; omega) ?_; intro A3 c3 w3 hown3 hgrow3 hat3)
          have hB3 : Below w.heap.size w w3 := (hB2.alloc hB2.size _).grown hgrow3 (by have := hB2.size; simp; omega) hown2.lo
          have hG2 := hK.grp
          have hne2 : v.ownBlock = none ∨ v.ownBlock ≠ (Value.slice A' k c').ownBlock := by
            rcases hne with h | h
            · rw [h]
              cases hv : v.ownBlock
              · exact .inl rfl
              · exact .inr (by simp)
            · exact .inr fun e => h e.symm
          have hG3 : Grp w3 w.heap.size G v L2 := by
            refine ⟨hG2.base, ?_, (hG2.row.alloc _).kept hgrow3 hne2⟩
            refine (hgrow3.block G (by have := hG2.lt; simp; omega) ?_).trans ((hG2.alloc _).blk)
            intro e
            exact hown2.ne_ hG2.blk (by decide) e.symm
          clear hgrow3 hown2 hown hne2
          go_roundw
          case rel =>
            refine ⟨k + 1, L2, A3, c3, by omega, by go_num, rfl, hG3, hK.down, hK.len.trans HLEN'.out, fun j => (hK.root j).trans (HR'.out j), ?_, ?_, hB3⟩
            · rw [outL_succ, ← HX.out]
              exact hown3
            · rcases hat3 with h | h
              · rw [h]; exact hne
              · right
                intro e
                rw [h] at e
                have h2 := (World.ownsRow.lt hG2.row _ e.symm).2
                have h3 : ∀ o : Obj, (w2.alloc o).heap.size = w2.heap.size + 1 := fun o => by simp
                rw [h3] at h2
                omega
          case measure => simp [intOf]; omega
        · obtain rfl : k = n := by omega
          go_wp2
          go_ret2
          exact ⟨fn L, A', c', hd, hinv2, rfl, hown, hb'⟩

/-- the error of what is not right -/
def oe (n : Int) (l : List (Int × Int)) : Int := if n < 0 ∨ 64 < n then 1 else if 600 < l.length then 2 else 1
theorem oe_ne (n : Int) (l : List (Int × Int)) : (oe n l != 0) = true ∧ (oe n l == 0) = false := by
  unfold oe
  repeat' split
  all_goals exact ⟨rfl, rfl⟩

set_option maxRecDepth 100000 in
set_option maxHeartbeats 4000000 in
theorem of_no (n : Int) (A : Option Addr) (c : Nat) (l : List (Int × Int)) (w : World) (h : ¬ (0 ≤ n ∧ n ≤ 64 ∧ l.length ≤ 600 ∧ InR n.toNat l)) (hlen : l.length ≤ 9223372036854775807) (hs : Sl w w.heap.size 2 cp A l) :
    Calls Try.prog 42 #[.int .i64 n, .slice A l.length c] w fun e w' => e = .returned (.tuple #[.slice none 0 0, .int .i64 (oe n l)]) ∧ Below w.heap.size w w' := by
  by_cases h1 : n < 0 ∨ 64 < n
  · have hfin : oe n l = 1 := by rw [oe, if_pos h1]
    rw [hfin]
    clear hfin hs h
    rcases (show n < 0 ∨ (0 ≤ n ∧ 64 < n) from by omega) with h | h
    all_goals
      go_enter Try.func42, Try.ntmps42
      go_wp2
      go_ret2
      exact ⟨rfl, Below.refl _ _⟩
  · obtain ⟨n, rfl⟩ := Int.eq_ofNat_of_zero_le (show 0 ≤ n from by omega)
    have hn : n ≤ 64 := by omega
    by_cases h2 : 600 < l.length
    · have hfin : oe n l = 2 := by rw [oe, if_neg h1, if_pos h2]
      rw [hfin]
      clear hfin hs h h1
      go_enter Try.func42, Try.ntmps42
      go_wp2
      go_ret2
      exact ⟨rfl, Below.refl _ _⟩
    · have hfin : oe n l = 1 := by rw [oe, if_neg h1, if_neg h2]
      rw [hfin]
      have h3 : ¬ InR n l := fun k => h ⟨by omega, by omega, by omega, k⟩
      have hl : l.length ≤ 600 := by omega
      clear hfin h h1 h2
      go_enter Try.func42, Try.ntmps42
      go_wp2_with fail
      refine (new_any n _ hn).mono ?_
      rintro e w1 ⟨G, v, rfl, hg, hB⟩
      go_wp2
      go_loopw [24] (fun i wr => ∃ (k : Nat) (L : List Nat), k ≤ l.length ∧ i = .int .i64 k ∧ Grp wr w.heap.size G v L ∧ Down L ∧ L.length = n ∧ InR n (l.take k) ∧ Below w.heap.size w wr) (fun i _ => l.length - (intOf i).toNat)
      case atStart => exact ⟨0, List.range n, Nat.zero_le _, rfl, hg, down_range n, List.length_range, fun p hp => by simp at hp, hB⟩
      case round =>
        obtain ⟨k, L, hk, rfl, hG, hd, hlen', hin, hb⟩ := hrel
        have HLEN := Lib.hid hlen'
        have HIN := Lib.hid hin
        clear hlen' hin
        by_cases hlt : k < l.length
        · obtain ⟨b, off, f, t, rfl, hbB, he, hcf, hct⟩ := Sl.atP (hs.keep hb (Nat.le_refl _)) hlt
          have HE := Lib.hid he
          have H3 := Lib.hid h3
          clear he h3
          have hsz := hG.lt
          have hB' := hb.alloc hb.size (.cells #[.int .i64 f, .int .i64 t] 104)
          by_cases hin : 0 ≤ f ∧ f < n ∧ 0 ≤ t ∧ t < n
          · obtain ⟨p1, p2, p3, p4⟩ := hin
            obtain ⟨f, rfl⟩ := Int.eq_ofNat_of_zero_le p1
            obtain ⟨t, rfl⟩ := Int.eq_ofNat_of_zero_le p3
            go_wp2_with fail
            refine (join_any w.heap.size G f t v L _ (hG.alloc _) hd (by rw [HLEN.out]; omega) (by rw [HLEN.out]; omega) (by rw [HLEN.out]; omega)).mono ?_
            rintro e w2 ⟨rfl, L2, hJ⟩
            have hB2 : Below w.heap.size w w2 := hB'.grown hJ.only (by have := hb.size; simp; omega) (own_base hG.row)
            go_wp2
            go_roundw
            case rel =>
              refine ⟨k + 1, L2, by omega, by go_num, hJ.grp, hJ.down, hJ.len.trans HLEN.out, ?_, hB2⟩
              intro p hp
              rw [List.take_succ_eq_append_getElem hlt, HE.out] at hp
              rcases List.mem_append.1 hp with hp | hp
              · exact HIN.out p hp
              · simp only [List.mem_singleton] at hp
                subst hp
                exact ⟨by simp, by simpa using p2, by simp, by simpa using p4⟩
            case measure => simp [intOf]; omega
          · go_wp2
            all_goals first
              | (go_ret2; exact ⟨rfl, hB'⟩)
              | (exfalso; omega)
        · obtain rfl : k = l.length := by omega
          exfalso
          have := HIN.out
          rw [List.take_length] at this
          exact h3 this

/-- how many stand for themselves -/
def many (f : Nat → Nat) (n : Nat) : Nat := ((List.range n).filter fun i => root f i == i).length
theorem many_succ (f : Nat → Nat) (n : Nat) : many f (n + 1) = many f n + if root f n = n then 1 else 0 := by
  unfold many
  rw [List.range_succ, List.filter_append, List.length_append]
  by_cases h : root f n = n <;> simp [List.filter_cons, h]
theorem many_le (f : Nat → Nat) (n : Nat) : many f n ≤ n := by
  unfold many
  exact Nat.le_trans (List.length_filter_le _ _) (by simp)
def SomeMany (n : Nat) (l : List (Int × Int)) (w : World) (e : Ending) (w' : World) : Prop :=
  ∃ f, (∀ i, f i ≤ i) ∧ Inv (pn l) f ∧ e = .returned (.tuple #[.int .i64 (many f n : Nat), .int .i64 0]) ∧ Below w.heap.size w w'
theorem outL_get {f : Nat → Nat} {n k : Nat} (h : k < (outL f n).length) : (outL f n)[k] = ((root f k : Nat) : Int) := by simp [outL]

set_option maxRecDepth 100000 in
set_option maxHeartbeats 2000000 in
theorem many_yes (n : Nat) (A : Option Addr) (c : Nat) (l : List (Int × Int)) (w : World) (hn : n ≤ 64) (hl : l.length ≤ 600) (hp : InR n l) (hs : Sl w w.heap.size 2 cp A l) :
    Calls Try.prog 45 #[.int .i64 (n : Int), .slice A l.length c] w fun e w' => SomeMany n l w e w' := by
  go_enter Try.func45, Try.ntmps45
  go_wp2_with fail
  refine (of_yes n A c l w hn hl hp hs).mono ?_
  rintro e w1 ⟨f, A1, c1, hf, hinv, rfl, hown, hB⟩
  have hsl := hown.sl.2
  go_wp2
  go_loopw [8, 19] (fun m i wr => ∃ k : Nat, k ≤ n ∧ i = .int .i64 k ∧ m = .int .i64 (many f k : Nat) ∧ wr = w1) (fun _ i _ => n - (intOf i).toNat)
  case atStart => exact ⟨0, Nat.zero_le _, rfl, rfl, rfl⟩
  case round =>
    obtain ⟨k, hk, rfl, rfl, rfl⟩ := hrel
    have hm := many_le f k
    have hr := root_le hf k
    by_cases hlt : k < n
    · obtain ⟨b, off, rfl, hbB, hc1⟩ := hsl.atI (k := k) (by rw [outL_len]; exact hlt)
      rw [outL_get] at hc1
      have hms := many_succ f k
      have HMS := Lib.hid hms
      obtain ⟨x, hx⟩ : ∃ x, x = root f k := ⟨_, rfl⟩
      rw [← hx] at hc1 hr
      have HX := Lib.hid hx
      clear hms hsl hx
      by_cases hxk : x = k
      · subst hxk
        go_wp2
        go_roundw
        case rel => exact ⟨x + 1, by omega, by go_num, by rw [HMS.out, if_pos HX.out.symm]; go_num, trivial⟩
        case measure => simp [intOf]; omega
      · have hne : ((k : Int) == (x : Int)) = false := by rw [beq_eq_false_iff_ne]; omega
        go_wp2
        go_roundw
        case rel => exact ⟨k + 1, by omega, by go_num, by rw [HMS.out, if_neg (by rw [← HX.out]; omega)]; rfl, trivial⟩
        case measure => simp [intOf]; omega
    · obtain rfl : k = n := by omega
      go_wp2
      go_ret2
      exact ⟨f, hf, hinv, rfl, hB⟩

theorem of_yes' (n : Nat) (A : Option Addr) (m c : Nat) (l : List (Int × Int)) (w : World) (hn : n ≤ 64) (hl : l.length ≤ 600) (hm : l.length = m) (hp : InR n l) (hs : Sl w w.heap.size 2 cp A l) :
    Calls Try.prog 42 #[.int .i64 (n : Int), .slice A m c] w fun e w' => SomeOf n l w e w' := by
  subst hm
  exact of_yes n A c l w hn hl hp hs
end Go.Proofs.Ytdpjbjgecmnmnaa.Union
