/- The walks of package union: what each function answers. -/
import Derived.Test.YtdpjbjgecmnmnaaSlice
import Derived.Test.YtdpjbjgecmnmnaaUnionLaw
import Derived.BigRegion
namespace Go.Proofs.Ytdpjbjgecmnmnaa.Union
open Go.RowKit Go.Proofs.Ytdpjbjgecmnmnaa UnionLaw
set_option linter.unusedSimpArgs false
set_option linter.unusedVariables false

theorem infoInt : (Try.prog.info? 3).map (fun i => (i.zero, i.size, i.bytes)) = some (some (.int .i64 0), 1, 8) := by kernel_rfl

/-- the cells of a list of numbers -/
def nums (L : List Nat) : List Value := L.map fun (k : Nat) => Value.int .i64 (k : Int)
/-- the groups at block G, their list L in the row v -/
structure Grp (w : World) (B G : Nat) (v : Value) (L : List Nat) : Prop where
  base : B ≤ G
  blk : w.heap[G]? = some (.cells #[v] 119 (0, 0))
  row : w.ownsRow B 3 1 v L.length (nums L)

theorem oneCell_num (k : Int) : ∀ u ∈ [Value.int .i64 k], u.oneCell' = true := by intro u hu; simp at hu; subst hu; rfl

theorem cell_new1 (w : World) (u : Value) (t : TypeId) : ∀ (j : Nat) (x : Value), [u][j]? = some x → (w.alloc (.cells #[u] t)).cell? ((⟨w.heap.size, 0, none⟩ : Addr).add j) = some x := by
  intro j x hj
  match j, hj with
  | 0, hj => simp at hj; subst hj; simp [Addr.add]

theorem own_base {w : World} {base : Nat} {e : TypeId} {size n : Nat} {v : Value} {xs : List Value} (h : w.ownsRow base e size v n xs) : ∀ k, v.ownBlock = some k → base ≤ k := by
  intro k hk
  rcases h.2 with ⟨rfl, _⟩ | ⟨g', cap, cur, rfl, hg, _⟩
  · simp [Value.ownBlock] at hk
  · simp [Value.ownBlock] at hk
    omega
theorem own_form {w : World} {base : Nat} {e : TypeId} {size n : Nat} {v : Value} {xs : List Value} (h : w.ownsRow base e size v n xs) : ∃ A c, v = .slice A n c := by
  rcases h.2 with ⟨rfl, rfl⟩ | ⟨g', cap, cur, rfl, hg, _⟩
  · exact ⟨_, _, rfl⟩
  · exact ⟨_, _, rfl⟩
/-- a row's block is not a block of another element type -/
theorem own_ne {w : World} {base : Nat} {e t : TypeId} {size n g : Nat} {v : Value} {xs : List Value} {cs : Array Value} (h : w.ownsRow base e size v n xs) (hg : w.heap[g]? = some (.cells cs t (0, 0))) (hne : e ≠ t) : v.ownBlock ≠ some g := by
  rcases h.2 with ⟨rfl, _⟩ | ⟨g', cap, cur, rfl, _, hh, _⟩
  · simp [Value.ownBlock]
  · intro he
    have : g' = g := by simpa [Value.ownBlock] using he
    subst this
    rw [hg] at hh
    injection hh with hh
    injection hh with _ ht
    exact hne ht.symm

theorem Grp.lt {w : World} {B G : Nat} {v : Value} {L : List Nat} (h : Grp w B G v L) : G < w.heap.size := lt_of_block h.blk
theorem Grp.ne {w : World} {B G : Nat} {v : Value} {L : List Nat} (h : Grp w B G v L) : v.ownBlock ≠ some G := own_ne h.row h.blk (by decide)
/-- the group's block behind an append to its row -/
theorem Grp.grown {w w1 : World} {B G : Nat} {v : Value} {L : List Nat} {o : Obj} (h : Grp w B G v L) (hg : (w.alloc o).grownBy w1 v.ownBlock) : w1.heap[G]? = some (.cells #[v] 119 (0, 0)) :=
  (hg.block G (by have := h.lt; simp; omega) (fun e => h.ne e.symm)).trans ((Below.heap_alloc _ _ _ h.lt).trans h.blk)
theorem grp_set {w1 : World} {B G : Nat} {v v1 : Value} {L : List Nat} (hB : B ≤ G) (hb : w1.heap[G]? = some (.cells #[v] 119 (0, 0))) (hr : w1.ownsRow B 3 1 v1 L.length (nums L)) :
    Grp (w1.setCell ⟨G, 0, none⟩ v1) B G v1 L :=
  ⟨hB, one_setCell hb, ownsRow_setCell_other hr (own_ne hr hb (by decide)) _⟩

set_option maxRecDepth 100000 in
set_option maxHeartbeats 1000000 in
theorem new_any (n : Nat) (w : World) (hn : n ≤ 64) :
    Calls Try.prog 73 #[.int .i64 (n : Int)] w fun e w' => ∃ G v, e = .returned (.pointer (some ⟨G, 0, none⟩)) ∧ Grp w' w.heap.size G v (List.range n) ∧ Below w.heap.size w w' := by
  obtain ⟨i0, hi, hz0, hz1, hz2⟩ := info_parts infoInt
  go_enter Try.func73, Try.ntmps73
  go_wp2
  go_loopw [8] (fun i wr => ∃ (k : Nat) (v : Value), k ≤ n ∧ i = .int .i64 k ∧ Grp wr w.heap.size w.heap.size v (List.range k) ∧ Below w.heap.size w wr) (fun i _ => n - (intOf i).toNat)
  case atStart => exact ⟨0, .slice none 0 0, Nat.zero_le _, rfl, ⟨Nat.le_refl _, heap_alloc_new w _, World.ownsRow_nil _ _ _ _⟩, (Below.refl _ _).alloc (Nat.le_refl _) _⟩
  case round =>
    obtain ⟨k, v, hk, rfl, hg, hB⟩ := hrel
    by_cases hlt : k < n
    · have hcell := cell_of_one hg.blk
      have hsz := lt_of_block hg.blk
      have hrow := hg.row
      rw [List.length_range] at hrow
      go_wp2_with (at_builtin; refine wpList_append_own _ rfl (.tmp 15) (.tmp 17) _ rfl w.heap.size 3 i0 (.int .i64 0) 1 8 Try.underlying25 hi hz0 hz1 hz2 rfl (by decide) v k _ rfl (hrow.alloc _) ⟨wr.heap.size, 0, none⟩ 1 1 [.int .i64 (k : Int)] rfl rfl (cell_new1 _ _ _) (oneCell_num _) (by unfold maxLen; omega) (by omega) (by have := hB.size; simp; omega) ?_; intro v1 w1 hown1 hgrow1 _; obtain ⟨A1, c1, rfl⟩ := own_form hown1; have hblk1 := hg.grown hgrow1; have hcell1 := cell_of_one hblk1; have hfree1 := free_of_one hblk1; clear hcell)
      have hB1 : Below w.heap.size w w1 := (hB.alloc hB.size _).grown hgrow1 (by have := hB.size; simp; omega) (own_base hg.row)
      clear hgrow1 hrow
      go_roundw
      case rel =>
        refine ⟨k + 1, .slice A1 (k + 1) c1, by omega, by go_num, ?_, hB1.setCell (Nat.le_refl _) _⟩
        refine grp_set (Nat.le_refl _) hblk1 ?_
        rw [List.length_range, List.range_succ]
        simpa [nums] using hown1
      case measure => simp [intOf]; omega
    · obtain rfl : k = n := by omega
      go_wp2
      go_ret
      exact ⟨w.heap.size, v, rfl, hg, hB⟩

theorem own_some {w : World} {base : Nat} {e : TypeId} {size n : Nat} {v : Value} {xs : List Value} (h : w.ownsRow base e size v n xs) (hn : 0 < n) : ∃ S c, v = .slice (some ⟨S, 0, none⟩) n c ∧ base ≤ S ∧ S < w.heap.size ∧ n ≤ c := by
  rcases h.2 with ⟨rfl, rfl⟩ | ⟨g', cap, cur, rfl, hg, hh, hc, _⟩
  · omega
  · exact ⟨_, _, rfl, hg, lt_of_block hh, hc⟩
theorem nums_get {L : List Nat} {k : Nat} (h : k < L.length) : (nums L)[k]? = some (.int .i64 ((fn L k : Nat) : Int)) := by
  rw [fn_of_lt h]
  simp [nums, h]
/-- a place of the list, in the world -/
theorem Grp.at_ {w : World} {B G S c : Nat} {L : List Nat} (h : Grp w B G (.slice (some ⟨S, 0, none⟩) L.length c) L) {k : Nat} (hk : k < L.length) : w.cell? ⟨S, k, none⟩ = some (.int .i64 ((fn L k : Nat) : Int)) ∧ w.frozen? ⟨S, k, none⟩ = false :=
  ⟨(h.row.cellAt k (by omega)).trans (nums_get hk), h.row.frozenAt k⟩
theorem Grp.store {w : World} {B G S c : Nat} {L : List Nat} (h : Grp w B G (.slice (some ⟨S, 0, none⟩) L.length c) L) (k u : Nat) :
    Grp (w.setCell ⟨S, k, none⟩ (.int .i64 (u : Int))) B G (.slice (some ⟨S, 0, none⟩) (L.set k u).length c) (L.set k u) := by
  have hs := h.row.stored k (.int .i64 (u : Int))
  refine ⟨h.base, ?_, ?_⟩
  · rw [List.length_set, ← h.blk]
    exact Below.heap_setCell _ _ _ _ (fun e => h.ne (by simp [Value.ownBlock]; exact e.symm))
  · rw [List.length_set]
    have e : nums (L.set k u) = (nums L).set k (.int .i64 (u : Int)) := by simp [nums, List.map_set]
    rw [e]
    exact hs.1

/-- what Find and Join leave: the same block and row, other ways to the same firsts -/
structure Kept (w w' : World) (B G : Nat) (v : Value) (L L' : List Nat) : Prop where
  grp : Grp w' B G v L'
  len : L'.length = L.length
  down : Down L'
  root : ∀ j, root (fn L') j = root (fn L) j
  only : w.grownBy w' v.ownBlock
def SomeKept (w : World) (B G : Nat) (v : Value) (L : List Nat) (w' : World) : Prop := ∃ L', Kept w w' B G v L L'

theorem only_trans {a b c : World} {r : Option Nat} (h : a.grownBy b r) (k : b.grownBy c r) : a.grownBy c r :=
  ⟨k.os.trans h.os, k.tape.trans h.tape, k.output.trans h.output, Nat.le_trans h.size k.size, fun i hi hne => (k.block i (Nat.lt_of_lt_of_le hi h.size) hne).trans (h.block i hi hne)⟩

theorem only_set (w : World) (p : Addr) (u : Value) : w.grownBy (w.setCell p u) (some p.block) :=
  ⟨rfl, rfl, rfl, by simp [World.setCell], fun k _ hne => Below.heap_setCell _ _ _ _ (fun e => hne (by rw [e]))⟩
theorem only_drew {a w : World} {row : Option Nat} (h : a.grownBy w row) : a.grownBy w.drew row := ⟨h.os, h.tape, h.output, h.size, h.block⟩
theorem Grp.drew {w : World} {B G : Nat} {v : Value} {L : List Nat} (h : Grp w B G v L) : Grp w.drew B G v L := ⟨h.base, h.blk, h.row⟩

set_option maxRecDepth 100000 in
set_option maxHeartbeats 2000000 in
theorem find_any (B G i : Nat) (v : Value) (L : List Nat) (w : World) (hg : Grp w B G v L) (hd : Down L) (hi : i < L.length) (hn : L.length ≤ 64) :
    Calls Try.prog 75 #[.pointer (some ⟨G, 0, none⟩), .int .i64 (i : Int)] w fun e w' => e = .returned (.int .i64 ((root (fn L) i : Nat) : Int)) ∧ SomeKept w B G v L w' := by
  obtain ⟨S, c, rfl, hSB, hS, hc⟩ := own_some hg.row (by omega)
  go_enter Try.func75, Try.ntmps75
  go_wp2
  go_loopw [1] (fun x wr => ∃ (k : Nat) (L' : List Nat), k < L.length ∧ x = .int .i64 k ∧ Kept w wr B G (.slice (some ⟨S, 0, none⟩) L.length c) L L' ∧ root (fn L) k = root (fn L) i) (fun x _ => (intOf x).toNat)
  case atStart => exact ⟨i, L, hi, rfl, ⟨hg, rfl, hd, fun _ => rfl, World.grownBy.refl _ _⟩, rfl⟩
  case round =>
    obtain ⟨k, L', hk, rfl, hK, hr⟩ := hrel
    have hG := hK.grp
    have hcell := cell_of_one hG.blk
    have hlen := hK.len
    rw [← hlen] at hk hG
    have hGsz := hG.lt
    obtain ⟨c1, f1⟩ := hG.at_ hk
    have hdk := hK.down k
    have hdk2 := hK.down (fn L' k)
    obtain ⟨c2, f2⟩ := hG.at_ (k := fn L' k) (by omega)
    obtain ⟨x, hx⟩ : ∃ x, x = fn L' k := ⟨_, rfl⟩
    obtain ⟨y, hy⟩ : ∃ y, y = fn L' (fn L' k) := ⟨_, rfl⟩
    rw [← hy, ← hx] at c2
    rw [← hx] at c1
    have hxk : x ≤ k := by omega
    have hyx : y ≤ x := by omega
    have hkn : k < L.length := by omega
    have HR := Lib.hid hr
    have HL := Lib.hid hlen
    have HX := Lib.hid hx
    have HY := Lib.hid hy
    clear hr hlen hx hy hdk hdk2 f2
    by_cases hxk' : x = k
    · subst hxk'
      have hfin : root (fn L) i = x := by rw [← HR.out, ← hK.root, root_fix HX.out.symm]
      have HF := Lib.hid hfin
      clear hfin c2
      go_wp2
      go_ret
      exact ⟨ret_int (by rw [HF.out]), L', hK⟩
    · have hne : ((x : Int) == (k : Int)) = false := by rw [beq_eq_false_iff_ne]; omega
      have hne2 : ((x : Int) != (k : Int)) = true := by rw [bne_iff_ne]; omega
      go_wp2
      go_region
      go_wp2
      go_roundw
      case rel =>
        have hx := HX.out
        have hy := HY.out
        rw [HL.out] at hG
        have hst := Grp.store (B := B) (G := G) (L := L') (S := S) (c := c) (by rw [HL.out]; exact hG) k y
        refine ⟨y, L'.set k y, by omega, rfl, ⟨?_, by rw [List.length_set]; exact HL.out, ?_, ?_, ?_⟩, ?_⟩
        · rw [List.length_set, HL.out] at hst
          exact hst.drew
        · unfold Down
          rw [fn_set _ _ _ hk, hy]
          exact upd_le hK.down (by omega)
        · intro j
          rw [fn_set _ _ _ hk, hy, root_halve hK.down]
          exact hK.root j
        · exact only_drew (only_trans hK.only (only_set _ ⟨S, k, none⟩ _))
        · rw [← HR.out, ← hK.root y, ← hK.root k, hy, root_step hK.down, root_step hK.down]
      case measure => simp [intOf]; omega

theorem ne_cast (a b : Nat) : ((a : Int) != (b : Int)) = (a != b) := by
  rw [Bool.eq_iff_iff, bne_iff_ne, bne_iff_ne]
  omega
/-- what Join leaves -/
structure Joined (w w' : World) (B G a b : Nat) (v : Value) (L L' : List Nat) : Prop where
  grp : Grp w' B G v L'
  len : L'.length = L.length
  down : Down L'
  root : ∀ j, root (fn L') j = if root (fn L) j = max (root (fn L) a) (root (fn L) b) then min (root (fn L) a) (root (fn L) b) else root (fn L) j
  only : w.grownBy w' v.ownBlock
def SomeJoined (w : World) (B G a b : Nat) (v : Value) (L : List Nat) (w' : World) : Prop := ∃ L', Joined w w' B G a b v L L'

set_option maxRecDepth 100000 in
set_option maxHeartbeats 2000000 in
theorem join_any (B G a b : Nat) (v : Value) (L : List Nat) (w : World) (hg : Grp w B G v L) (hd : Down L) (ha : a < L.length) (hb : b < L.length) (hn : L.length ≤ 64) :
    Calls Try.prog 74 #[.pointer (some ⟨G, 0, none⟩), .int .i64 (a : Int), .int .i64 (b : Int)] w fun e w' => e = .returned (.bool (root (fn L) a != root (fn L) b)) ∧ SomeJoined w B G a b v L w' := by
  obtain ⟨S, c, rfl, hSB, hS, hc⟩ := own_some hg.row (by omega)
  have hra := root_le hd a
  have hrb := root_le hd b
  obtain ⟨ra, hra'⟩ : ∃ x, x = root (fn L) a := ⟨_, rfl⟩
  obtain ⟨rb, hrb'⟩ : ∃ x, x = root (fn L) b := ⟨_, rfl⟩
  have k1 := fun W (h : Grp W B G (.slice (some ⟨S, 0, none⟩) L.length c) L) => find_any B G a _ L W h hd ha hn
  rw [← hra'] at k1 hra
  rw [← hrb'] at hrb
  have K1 := Lib.hid k1
  have RA := Lib.hid hra'
  have RB := Lib.hid hrb'
  clear k1 hra' hrb'
  go_enter Try.func74, Try.ntmps74
  go_wp2_with fail
  refine (K1.out _ hg).mono ?_
  rintro e w1 ⟨rfl, L1, hK1⟩
  have k2 := find_any B G b _ L1 w1 hK1.grp hK1.down (by rw [hK1.len]; exact hb) (by rw [hK1.len]; exact hn)
  rw [hK1.root, ← RB.out] at k2
  have K2 := Lib.hid k2
  clear k2
  go_wp2_with fail
  refine K2.out.mono ?_
  rintro e w2 ⟨rfl, L2, hK2⟩
  have hG := hK2.grp
  have hl : L2.length = L.length := hK2.len.trans hK1.len
  have hcell := cell_of_one hG.blk
  have hroot : ∀ j, root (fn L2) j = root (fn L) j := fun j => (hK2.root j).trans (hK1.root j)
  have honly := only_trans hK1.only hK2.only
  have hdown := hK2.down
  have hGsz := hG.lt
  rw [← hl] at hG
  obtain ⟨ca, fa⟩ := hG.at_ (k := ra) (by omega)
  obtain ⟨cb, fb⟩ := hG.at_ (k := rb) (by omega)
  obtain ⟨xa, hxa⟩ : ∃ x, x = fn L2 ra := ⟨_, rfl⟩
  obtain ⟨xb, hxb⟩ : ∃ x, x = fn L2 rb := ⟨_, rfl⟩
  rw [← hxa] at ca
  rw [← hxb] at cb
  have hra2 : ra < L.length := by omega
  have hrb2 : rb < L.length := by omega
  have hmm : ∀ x y : Nat, (ra = x ∧ rb = y ∨ ra = y ∧ rb = x) → x ≤ y → Joined w (w2.setCell ⟨S, y, none⟩ (.int .i64 (x : Int))) B G a b (.slice (some ⟨S, 0, none⟩) L.length c) L (L2.set y x) := by
    intro x y hxy hle
    have hst := Grp.store hG y x
    rw [List.length_set, hl] at hst
    have hmax : max ra rb = y := by rcases hxy with ⟨h1, h2⟩ | ⟨h1, h2⟩ <;> omega
    have hmin : min ra rb = x := by rcases hxy with ⟨h1, h2⟩ | ⟨h1, h2⟩ <;> omega
    have hy : y < L2.length := by rw [hl]; rcases hxy with ⟨h1, h2⟩ | ⟨h1, h2⟩ <;> omega
    have ra1 : fn L2 ra = ra := by rw [RA.out, ← hroot]; exact root_is hdown a
    have rb1 : fn L2 rb = rb := by rw [RB.out, ← hroot]; exact root_is hdown b
    refine ⟨hst, by rw [List.length_set]; exact hl, ?_, fun j => ?_, only_trans honly (only_set _ ⟨S, y, none⟩ _)⟩
    · unfold Down
      rw [fn_set _ _ _ hy]
      exact upd_le hdown hle
    · have := root_join hdown ra1 rb1 j
      rw [hmax, hmin, hroot] at this
      rw [fn_set _ _ _ hy, this, ← RA.out, ← RB.out, hmax, hmin]
  have HM := Lib.hid hmm
  have HXA := Lib.hid hxa
  have HXB := Lib.hid hxb
  clear hroot hl hxa hxb hmm hra hrb
  rcases Nat.lt_trichotomy ra rb with t | t | t
  · have t1 : (ra : Int) < rb := by omega
    go_wp2
    go_ret
    exact ⟨ret_bool (by rw [← RA.out, ← RB.out]; exact ne_cast _ _), _, HM.out ra rb (.inl ⟨rfl, rfl⟩) (by omega)⟩
  · subst t
    go_wp2
    go_ret
    exact ⟨ret_bool (by rw [← RA.out, ← RB.out]; simp), _, HM.out ra ra (.inl ⟨rfl, rfl⟩) (Nat.le_refl _)⟩
  · have t1 : (rb : Int) < ra := by omega
    go_wp2
    go_ret
    exact ⟨ret_bool (by rw [← RA.out, ← RB.out]; exact ne_cast _ _), _, HM.out rb ra (.inr ⟨rfl, rfl⟩) (by omega)⟩
end Go.Proofs.Ytdpjbjgecmnmnaa.Union
