/- The walk of dijk.Run. -/
import Derived.Test.YtjebckehmmbkbaaVHeapSort
import Derived.Test.YtjebckehmmbkbaaVNetOuts
import Derived.Test.YtjebckehmmbkbaaVGridOver
import Derived.Test.YtjebckehmmbkbaaVBellSh
import Derived.Test.YtjebckehmmbkbaaVDijkLaw
import Derived.Deep.LoopGhost
import Derived.BigRegion
import Derived.BigQuiet
namespace Go.Proofs.Ytjebckehmmbkbaa.Dijk
open Go.RowKit Go.Proofs.Ytjebckehmmbkbaa NetLaw BellLaw DijkLaw HeapLaw Go.Proofs.Ytjebckehmmbkbaa.Net Go.Proofs.Ytjebckehmmbkbaa.Heap Go.Proofs.Ytjebckehmmbkbaa.Std
set_option linter.unusedSimpArgs false
set_option linter.unusedVariables false

section
variable {w w' : World} {base base' H n c : Nat} {fn : Value} {A : Option Addr} {L : List Pop}
/-- a block of another kind than the heap's stays -/
theorem blk_kp {g : Nat} {cs : Array Value} {t : TypeId} {fr : Nat × Nat} (h : HeapAt w base H fn A n c L) (hk : Kp w w' H (Value.slice A n c).ownBlock) (hg : w.heap[g]? = some (.cells cs t fr)) (h1 : 92 ≠ t) (h2 : 77 ≠ t) : w'.heap[g]? = some (.cells cs t fr) := by
  refine (hk.block g (lt_of_block hg) (fun e => ?_) (fun e => h.own.ne_ hg h2 e.symm)).trans hg
  subst e
  have := h.blk
  rw [hg] at this
  injection this with this
  injection this with _ ht _
  exact h1 ht.symm
theorem own_kp {α : Type} {sz : Nat} {cell : α → Nat → Value} {e : TypeId} {v : Value} {r : List α} (h : HeapAt w base H fn A n c L) (hk : Kp w w' H (Value.slice A n c).ownBlock) (ho : Own w base' e sz cell v r) (h1 : 92 ≠ e) (h2 : 77 ≠ e) : Own w' base' e sz cell v r := by
  refine ⟨ho.1, ?_⟩
  rcases ho.2 with h3 | ⟨g, cap, cur, rfl, hg, hh, rest⟩
  · exact .inl h3
  · exact .inr ⟨g, cap, cur, rfl, hg, blk_kp h hk hh h1 h2, rest⟩
theorem tab_kp {S m : Nat} {F : Nat → Option Addr × Nat} {Ls : Nat → List Int} (h : HeapAt w base H fn A n c L) (hk : Kp w w' H (Value.slice A n c).ownBlock) (ht : Tab w base' S m F Ls) : Tab w' base' S m F Ls := by
  obtain ⟨cs, hb, hs, hc⟩ := ht.blk
  exact ⟨ht.lo, ⟨cs, blk_kp h hk hb (by decide) (by decide), hs, hc⟩, fun v hv => own_kp h hk (ht.own v hv) (by decide) (by decide), ht.sep⟩
/-- a cell set elsewhere -/
theorem tab_far {S m : Nat} {F : Nat → Option Addr × Nat} {Ls : Nat → List Int} {p : Addr} (ht : Tab w base' S m F Ls) (h1 : p.block ≠ S) (h2 : ∀ v, v < m → (Value.slice (F v).1 (Ls v).length (F v).2).ownBlock ≠ some p.block) (u : Value) : Tab (w.setCell p u) base' S m F Ls := by
  obtain ⟨cs, hb, hs, hc⟩ := ht.blk
  exact ⟨ht.lo, ⟨cs, blk_far hb (fun e => h1 e.symm) u, hs, hc⟩, fun v hv => (ht.own v hv).setCell (h2 v hv) u, ht.sep⟩
theorem heap_far {p : Addr} {t : TypeId} {cs : Array Value} (h : HeapAt w base H fn A n c L) (hp : w.heap[p.block]? = some (.cells cs t (0, 0))) (h1 : 92 ≠ t) (h2 : 77 ≠ t) (u : Value) : HeapAt (w.setCell p u) base H fn A n c L := by
  have hne : H ≠ p.block := fun e => by
    have hb := h.blk
    rw [e, hp] at hb
    injection hb with hb
    injection hb with _ ht _
    exact h1 ht.symm
  exact ⟨h.hb, blk_far h.blk hne u, h.own.setCell (h.own.ne_ hp h2) u, h.len⟩
end
/-- the memory of Run: the net's box G, the distances at S, the table at T, the heap at H -/
structure Mem (w0 w : World) (n : Nat) (A : Option Addr) (c : Nat) (l : List E) (S T H : Nat) (F : Nat → Option Addr × Nat) (Ah : Option Addr) (m ch : Nat) (L : List Pop) (D : List Int) : Prop where
  box : w.heap[w0.heap.size]? = some (.cells #[.int .i64 n, .slice A l.length c] 24 (0, 0))
  dist : Own w w0.heap.size 3 1 ci (.slice (some ⟨S, 0, none⟩) n n) D
  dlen : D.length = n
  tab : Tab w w0.heap.size T n F (ol l l.length)
  sep : ∀ v, v < n → (Value.slice (F v).1 0 0).ownBlock ≠ some S
  heap : HeapAt w w0.heap.size H (fnOf 31) Ah m ch L
  lo : Below w0.heap.size w0 w
section
variable {w0 w w' : World} {n c S T H m ch : Nat} {A Ah : Option Addr} {l : List E} {F : Nat → Option Addr × Nat} {L : List Pop} {D : List Int}
theorem Mem.alloc (h : Mem w0 w n A c l S T H F Ah m ch L D) (o : Obj) : Mem w0 (w.alloc o) n A c l S T H F Ah m ch L D :=
  ⟨blk_alloc h.box o, h.dist.alloc o, h.dlen, h.tab.alloc o, h.sep, h.heap.alloc o, h.lo.alloc h.lo.size o⟩
theorem Mem.drewN (h : Mem w0 w n A c l S T H F Ah m ch L D) (k : Nat) : Mem w0 (w.drewN k) n A c l S T H F Ah m ch L D :=
  ⟨h.box, h.dist.drewN k, h.dlen, ⟨h.tab.lo, h.tab.blk, h.tab.own, h.tab.sep⟩, h.sep, h.heap.drewN k, below_drewN h.lo k⟩
theorem Mem.kp {Ah' : Option Addr} {m' ch' : Nat} {L' : List Pop} (h : Mem w0 w n A c l S T H F Ah m ch L D) (hk : Kp w w' H (Value.slice Ah m ch).ownBlock) (hh : HeapAt w' w0.heap.size H (fnOf 31) Ah' m' ch' L') : Mem w0 w' n A c l S T H F Ah' m' ch' L' D :=
  ⟨blk_kp h.heap hk h.box (by decide) (by decide), own_kp h.heap hk h.dist (by decide) (by decide), h.dlen, tab_kp h.heap hk h.tab, h.sep, hh, h.lo.trans (hk.to h.lo.size h.heap.hb h.heap.own.lo)⟩
theorem Mem.set (h : Mem w0 w n A c l S T H F Ah m ch L D) (t : Nat) (x : Int) (hn : 0 < n) : Mem w0 (w.setCell ⟨S, t, none⟩ (.int .i64 x)) n A c l S T H F Ah m ch L (D.set t x) := by
  obtain ⟨cur, hb⟩ : ∃ cs, w.heap[S]? = some (.cells cs 3 (0, 0)) := by
    rcases h.dist.2 with ⟨h1, h2⟩ | ⟨g, cap, cur, hv, _, hh, _⟩
    · cases h1
    · injection hv with hv _ _
      injection hv with hv
      injection hv with hv _ _
      subst hv
      exact ⟨cur, hh⟩
  have hne : ∀ (g : Nat) (cs : Array Value) (t : TypeId), w.heap[g]? = some (.cells cs t (0, 0)) → 3 ≠ t → g ≠ S := fun g cs t hg ht e => by
    subst e
    rw [hg] at hb
    injection hb with hb
    injection hb with _ hb _
    exact ht hb.symm
  obtain ⟨cs, htb, _⟩ := h.tab.blk
  exact ⟨blk_far h.box (hne _ _ _ h.box (by decide)) _, own_set1 h.dlen h.dist t x, by simp [h.dlen], tab_far h.tab (fun e => hne _ _ _ htb (by decide) e.symm) (fun v hv e => h.sep v hv ((obs ..).trans e)) _, h.sep, heap_far h.heap hb (by decide) (by decide) _, h.lo.setCell (by have := h.dist.base_ S rfl; exact this.1) _⟩
end
theorem Tab_mono {w : World} {b b' S n : Nat} {F : Nat → Option Addr × Nat} {Ls : Nat → List Int} (h : Tab w b S n F Ls) (hb : b' ≤ b) : Tab w b' S n F Ls := ⟨Nat.le_trans hb h.lo, h.blk, fun v hv => (h.own v hv).mono hb, h.sep⟩
theorem Heap_mono {w : World} {b b' H n c : Nat} {fn : Value} {A : Option Addr} {L : List Pop} (h : HeapAt w b H fn A n c L) (hb : b' ≤ b) : HeapAt w b' H fn A n c L := ⟨Nat.le_trans hb h.hb, h.blk, h.own.mono hb, h.len⟩
theorem start_inv' (n fr : Nat) (l : List E) (hf : fr < n) : Inv n fr l ((List.replicate n far).set fr 0) [(0, (fr : Int))] [] 0 [] 1 := by
  have hs := fun v hv => dg_set (D := List.replicate n far) (t := (fr : Int)) (v := v) (x := 0) (by omega) (by simp; omega) hv
  simp only [Int.toNat_natCast] at hs
  refine start_inv (by simp) (by rw [hs _ (by omega), if_pos rfl]) (fun v v0 v1 hv => ?_) ⟨by omega, by omega⟩
  rw [hs v v0, if_neg hv, dg, List.getD_eq_getElem?_getD, List.getElem?_replicate, if_pos (by omega)]
  rfl
/-- the edges with these numbers -/
def td (l : List E) (js : List Int) : List E := js.map fun i => l.getD i.toNat (0, 0, 0)
theorem ol_mem {l : List E} {k v : Nat} {z : Int} (h : z ∈ ol l k v) : ∃ i : Nat, z = i ∧ i < k ∧ (l.getD i (0, 0, 0)).1 = v := by
  unfold ol at h
  rw [List.mem_map] at h
  obtain ⟨i, hi, rfl⟩ := h
  rw [List.mem_filter, List.mem_range, beq_iff_eq] at hi
  exact ⟨i, rfl, hi.1, hi.2⟩
theorem td_all {l : List E} {v : Nat} : ∀ e ∈ l, e.1 = (v : Int) → e ∈ td l (ol l l.length v) := fun e he hv => by
  obtain ⟨i, hi, rfl⟩ := List.getElem_of_mem he
  unfold td
  rw [List.mem_map]
  refine ⟨(i : Int), ?_, by rw [Int.toNat_natCast, List.getD_eq_getElem?_getD, List.getElem?_eq_getElem hi]; rfl⟩
  unfold ol
  rw [List.mem_map]
  refine ⟨i, ?_, rfl⟩
  rw [List.mem_filter, List.mem_range, beq_iff_eq, List.getD_eq_getElem?_getD, List.getElem?_eq_getElem hi]
  exact ⟨hi, hv⟩
theorem ol_count (l : List E) (v : Nat) : (ol l l.length v).length = l.countP fun e => decide (e.1 = (v : Int)) := by
  have key : ∀ k, k ≤ l.length → (ol l k v).length = (l.take k).countP fun e => decide (e.1 = (v : Int)) := by
    intro k
    induction k with
    | zero => intro _; simp [ol]
    | succ k ih =>
      intro hk
      have hlt : k < l.length := by omega
      rw [ol_succ, List.take_succ_eq_append_getElem hlt, List.countP_append, ← ih (by omega), List.getD_eq_getElem?_getD, List.getElem?_eq_getElem hlt, Option.getD_some]
      by_cases h : l[k].1 = (v : Int)
      · rw [if_pos h]; simp [h]
      · rw [if_neg h]; simp [h]
  have := key l.length (Nat.le_refl _)
  rwa [List.take_length] at this
theorem recnt {N fr cur : Int} {l todo : List E} {D : List Int} {L : List (Int × Int)} {dn : List Int} {b b' : Nat} (h : Inv N fr l D L dn cur todo b) (hb : L.length ≤ b') : Inv N fr l D L dn cur todo b' :=
  ⟨h.len, h.lo, h.st, h.wk, h.ent, h.nd, h.pend, h.dnle, h.dnnd, h.rel, hb⟩
/-- what Run answers -/
def RunSays (n fr : Nat) (l : List E) (w : World) (e : Ending) (w' : World) : Prop :=
  ∃ S D, e = .returned (.slice (some ⟨S, 0, none⟩) n n) ∧ Own w' w.heap.size 3 1 ci (.slice (some ⟨S, 0, none⟩) n n) D ∧ Sh n fr l D ∧ Below w.heap.size w w'
/-- the outer rounds -/
structure Out (w0 w : World) (n : Nat) (fr : Nat) (A : Option Addr) (c : Nat) (l : List E) (S T H : Nat) (F : Nat → Option Addr × Nat) (Ah : Option Addr) (m ch : Nat) (L : List Pop) (D : List Int) (dn : List Int) (cur : Int) : Prop where
  mem : Mem w0 w n A c l S T H F Ah m ch L D
  hp : Hp d0 ltP L
  inv : Inv n fr l D L dn cur [] 7000

set_option maxRecDepth 100000 in
set_option maxHeartbeats 4000000 in
theorem run_wide (n fr : Nat) (A : Option Addr) (c : Nat) (l : List E) (w : World) (hl : Sl w w.heap.size 3 ce A l) (hg : Wide n l) (hf : fr < n) (hc0 : ∀ e ∈ l, 0 ≤ e.2.2) :
    Calls Try.prog 14 #[.agg #[.int .i64 n, .slice A l.length c], .int .i64 fr] w fun e w' => RunSays n fr l w e w' := by
  have hN := hg.hi
  have hlen := hg.len
  have hw0 : Below w.heap.size w (w.alloc (.cells #[.int .i64 n, .slice A l.length c] 24)) := (Below.refl _ _).alloc (Nat.le_refl _) _
  have hmk : ∀ w, (Instr.makeSlice 29 (.int .i64 (n : Int)) (.int .i64 (n : Int))).run Try.prog w = .ok (.slice (some ⟨w.heap.size, 0, none⟩) n n) (w.alloc (.cells (madeCells #[.int .i64 0] n) 3)) :=
    run_make_row' (P := Try.prog) 29 3 (.int .i64 0) 8 Try.underlying29 (by kernel_rfl) rfl .i64 .i64 n (by omega) (by omega)
  have own0 := Grid.own_made n w.heap.size (w.alloc (.cells #[.int .i64 n, .slice A l.length c] 24)) (by simp) (by omega) (by simp : _ = w.heap.size + 1)
  have box0 := blk_alloc (heap_alloc_new w (.cells #[.int .i64 n, .slice A l.length c] 24)) (.cells (madeCells #[.int .i64 0] n) 3)
  have OWN0 := Lib.hid own0
  have BOX0 := Lib.hid box0
  have HG := Lib.hid hg
  have HC := Lib.hid hc0
  have HSL0 := Lib.hid hl
  clear own0 box0 hg hc0
  go_enter Try.func14, Try.ntmps14
  go_wp2
  go_loopw [19] (fun i wr => ∃ k : Nat, k ≤ n ∧ i = .int .i64 k ∧ Own wr w.heap.size 3 1 ci (.slice (some ⟨w.heap.size + 1, 0, none⟩) n n) (List.replicate k far ++ List.replicate (n - k) 0) ∧ wr.heap[w.heap.size]? = some (.cells #[.int .i64 n, .slice A l.length c] 24 (0, 0)) ∧ Below w.heap.size w wr) (fun i _ => n - (intOf i).toNat)
  case atStart => exact ⟨0, Nat.zero_le _, rfl, by simpa using OWN0.out, BOX0.out, ((Below.refl _ _).alloc (Nat.le_refl _) _).alloc (by simp) _⟩
  case round =>
    obtain ⟨k, hk, rfl, own, hbox, hB⟩ := hrel
    have hlen1 : (List.replicate k far ++ List.replicate (n - k) (0 : Int)).length = n := by simp; omega
    clear OWN0 BOX0
    by_cases hlt : k < n
    · obtain ⟨pc, pf⟩ := own_at1 hlen1 own hlt
      have HL1 := Lib.hid hlen1
      clear hlen1
      go_wp2
      go_roundw
      case rel => exact ⟨k + 1, by omega, by go_num, by rw [← Bell.fill_step n k far 0 hlt]; exact own_set1 HL1.out own k _, blk_far hbox (by dsimp only; omega) _, hB.setCell (by dsimp only; omega) _⟩
      case measure => simp [intOf]; omega
    · obtain rfl : n = k := by omega
      rw [Nat.sub_self, List.replicate_zero, List.append_nil] at own hlen1
      obtain ⟨pc, pf⟩ := own_at1 hlen1 own hf
      have own2 := own_set1 hlen1 own fr 0
      have hbox2 := blk_far hbox (show w.heap.size ≠ (⟨w.heap.size + 1, fr, none⟩ : Addr).block by dsimp only; omega) (.int .i64 0)
      have hB2 := hB.setCell (p := ⟨w.heap.size + 1, fr, none⟩) (by dsimp only; omega) (.int .i64 0)
      have b0 := blk_cell hbox 0
      have b1 := blk_cell hbox 1
      simp only [List.getElem?_toArray, List.getElem?_cons_zero, List.getElem?_cons_succ] at b0 b1
      have hwr : w.heap.size + 1 < wr.heap.size := (own.base_ _ rfl).2
      have ko := fun W h => outs_wide n A c l W h HG.out
      have KO := Lib.hid ko
      have HOWN2 := Lib.hid own2
      have HBOX2 := Lib.hid hbox2
      have sl2 := (hl.keep hB2 (Nat.le_refl _)).more hB2.size
      have SL2 := Lib.hid sl2
      have HL1 := Lib.hid hlen1
      have hneS : ¬ w.heap.size + 1 = w.heap.size := by omega
      have hneS2 : ¬ w.heap.size = w.heap.size + 1 := by omega
      have hwr0 : w.heap.size < wr.heap.size := by omega
      clear ko own2 hbox2 own hbox sl2 hlen1 hlt
      go_wp2_with fail
      refine (KO.out _ SL2.out).mono ?_
      rintro e w2 ⟨T, F, rfl, htab, hb2⟩
      have hB3 := hB2.trans (hb2.mono hB2.size)
      have hbox3 := blk_below HBOX2.out hb2 (by simpa [World.setCell] using hwr0)
      have own3 := HOWN2.out.keep hb2
      have hsep : ∀ v, v < n → (Value.slice (F v).1 0 0).ownBlock ≠ some (w.heap.size + 1) := fun v hv e => by
        have := ((htab.own v hv).base_ _ ((obs ..).trans e)).1
        simp [World.setCell] at this
        omega
      have knew := new_any 31 w2
      unfold fnOf at knew
      have HTAB := Lib.hid (Tab_mono htab (show w.heap.size ≤ _ from hB2.size))
      have HBOX3 := Lib.hid hbox3
      have HOWN3 := Lib.hid own3
      have HSEP := Lib.hid hsep
      have KNEW := Lib.hid knew
      clear htab hbox3 own3 hsep knew HBOX2 HOWN2 pc pf b0 b1 hb2 hB
      go_wp2_with fail
      refine KNEW.out.mono ?_
      rintro e w3 ⟨H, rfl, hh3, hb3⟩
      have mem3 : Mem w w3 n A c l (w.heap.size + 1) T H F none 0 0 [] ((List.replicate n far).set fr 0) :=
        ⟨blk_below HBOX3.out hb3 (lt_of_block HBOX3.out), HOWN3.out.keep hb3, by simp, HTAB.out.keep hb3, HSEP.out, Heap_mono hh3 hB3.size, hB3.trans (hb3.mono hB3.size)⟩
      have kpush := push_any ltP ltP_ord less_any w.heap.size H none 0 0 [] 0 fr w3 mem3.heap Hp.nil (by decide) mem3.lo.size
      have MEM3 := Lib.hid mem3
      have KPUSH := Lib.hid kpush
      clear mem3 kpush hh3 hb3 hB3 HBOX3 HOWN3 HTAB HSEP
      go_wp2_with fail
      refine KPUSH.out.mono ?_
      rintro e w4 ⟨⟨v, rfl⟩, A4, c4, L4, hh4, hpm4, hhp4, hkp4, _⟩
      have hL4 : L4 = [(0, (fr : Int))] := List.perm_singleton.1 hpm4
      subst hL4
      have mem4 := MEM3.out.kp hkp4 hh4
      have out4 : Out w w4 n fr A c l (w.heap.size + 1) T H F A4 1 c4 [(0, (fr : Int))] ((List.replicate n far).set fr 0) [] 0 :=
        ⟨mem4, hhp4, by have h := start_inv' n fr l hf; exact ⟨h.len, h.lo, h.st, h.wk, h.ent, h.nd, h.pend, h.dnle, h.dnnd, h.rel, by simp⟩⟩
      have OUT4 := Lib.hid out4
      clear out4 mem4 hkp4 hh4 hpm4 hhp4 MEM3 hl
      go_wp2
      go_loopg [9] (1 + l.length) (fun g s9 wy => ∃ (Ah : Option Addr) (m ch : Nat) (L : List Pop) (D : List Int) (dn : List Int) (cur : Int), Out w wy n fr A c l (w.heap.size + 1) T H F Ah m ch L D dn cur ∧ L.length + (l.length - outs l dn) ≤ g ∧ g ≤ 1 + l.length)
      case atStart => exact ⟨A4, 1, c4, _, _, _, _, OUT4.out, by rw [outs_nil]; simp, Nat.le_refl _⟩
      case round =>
        clear OUT4
        obtain ⟨Ah, m, ch, L, D, dn, cur, ho, hgh, hgb⟩ := hrel
        have hmem := ho.mem
        have klen := len_any wr hmem.heap
        have hLm := hmem.heap.len
        by_cases hm0 : m = 0
        · subst hm0
          have hL : L = [] := List.eq_nil_of_length_eq_zero hLm
          subst hL
          have hsh := ho.inv
          have HSH := Lib.hid hsh
          have KLEN := Lib.hid klen
          have HMEM := Lib.hid hmem
          clear ho hsh klen hmem hLm hgh
          go_wp2_with fail
          refine KLEN.out.mono ?_
          rintro e w5 ⟨rfl, rfl⟩
          go_wp2
          go_ret
          exact ⟨w.heap.size + 1, D, rfl, HMEM.out.dist, HSH.out.fin HG.out.ends, HMEM.out.lo⟩
        · obtain ⟨m, rfl⟩ : ∃ k, m = k + 1 := ⟨m - 1, by omega⟩
          have kpop := pop_any ltP ltP_ord less_any w.heap.size H Ah m ch L wr hmem.heap ho.hp (by omega) hmem.lo.size
          have htop := ho.hp.top_mem ltP_ord
          have KLEN := Lib.hid klen
          have KPOP := Lib.hid kpop
          have HTOP := Lib.hid htop
          have HO := Lib.hid ho
          have hgh' := Lib.hid hgh
          have hLm' := Lib.hid hLm
          clear klen kpop htop ho hmem hm0 hgh hLm
          go_wp2_with fail
          refine KLEN.out.mono ?_
          rintro e w5 ⟨rfl, rfl⟩
          go_wp2_with fail
          refine KPOP.out.mono ?_
          rintro e w6 ⟨p, q, L5, rfl, hg0, hh5, hpm5, hhp5, hkp⟩
          have mem6 := HO.out.mem.kp hkp hh5
          have hmin : ∀ y ∈ L, p ≤ y.1 := fun y hy => by
            have := HTOP.out y hy
            rw [hg0] at this
            simp only [ltP, decide_eq_false_iff_not] at this
            omega
          have hpin : (p, q) ∈ L := hpm5.mem_iff.1 (List.mem_cons_self ..)
          obtain ⟨q0, q1, hdq, _, _⟩ := HO.out.inv.ent (p, q) hpin
          simp only at q0 q1 hdq
          obtain ⟨q, rfl⟩ := Int.eq_ofNat_of_zero_le q0
          have hqn : q < n := by omega
          obtain ⟨dc, df⟩ := own_at1 mem6.dlen mem6.dist hqn
          have hSw : w.heap.size + 1 < w6.heap.size := (mem6.dist.base_ _ rfl).2
          have hSw0 : w.heap.size < w6.heap.size := by omega
          have hdgq : dg D (q : Int) = D.getD q 0 := by rw [dg, Int.toNat_natCast]
          have HMIN := Lib.hid hmin
          have HPM5 := Lib.hid hpm5
          have MEM6 := Lib.hid mem6
          have HHP5 := Lib.hid hhp5
          rw [← hdgq] at dc
          have hL5 : L5.length = m := hh5.len
          have HL5 := Lib.hid hL5
          clear hg0 hh5 hkp mem6 hmin hpin hpm5 hhp5 hdgq hL5 q0 q1
          by_cases hskip : dg D (q : Int) < p
          · have hinv := HO.out.inv.skip HPM5.out HMIN.out hskip
            have hd : decide (p > dg D (q : Int)) = true := decide_eq_true hskip
            have hd2 : decide (dg D (q : Int) < p) = true := decide_eq_true hskip
            have HINV := Lib.hid hinv
            generalize dg D (q : Int) = x at *
            clear hinv
            go_wp2
            go_quiet (fail)
            go_wp2
            go_roundg (L5.length + (l.length - outs l dn))
            case measure => have h1 := hgh'.out; have h2 := hLm'.out; have h3 := HL5.out; omega
            case rel => exact ⟨Ah, m, ch, L5, D, dn, p, ⟨(MEM6.out.alloc _).drewN _, HHP5.out, HINV.out⟩, Nat.le_refl _, by have h1 := hgh'.out; have h2 := hLm'.out; have h3 := HL5.out; omega⟩
          · obtain ⟨hdk, _, _, hqd, htake⟩ := HO.out.inv.take HPM5.out HMIN.out hskip
            have hinv0 := htake (td l (ol l l.length q)) td_all
            have hcnt := ol_count l q
            have houts := outs_cons l dn q hqd
            rw [← hcnt] at houts
            have hole := outs_le l ((q : Int) :: dn)
            obtain ⟨tc, _⟩ := MEM6.out.tab.cell hqn
            have hrow : ∀ wx (Ax : Option Addr) (mx cx : Nat) (Lx : List Pop) (Dx : List Int), Mem w wx n A c l (w.heap.size + 1) T H F Ax mx cx Lx Dx → Own wx w.heap.size 3 1 ci (.slice (F q).1 (ol l l.length q).length (F q).2) (ol l l.length q) := fun wx Ax mx cx Lx Dx hx => hx.tab.own q hqn
            obtain ⟨K, hK⟩ : ∃ K, (ol l l.length q).length = K := ⟨_, rfl⟩
            obtain ⟨Aq, hAq⟩ : ∃ Aq, (F q).1 = Aq := ⟨_, rfl⟩
            obtain ⟨cq, hcq⟩ : ∃ cq, (F q).2 = cq := ⟨_, rfl⟩
            rw [hK] at tc hrow houts
            rw [hAq, hcq] at tc hrow
            have hTl := MEM6.out.tab.lt
            have hHl := MEM6.out.heap.lt
            have hrb : (Value.slice Ah m ch).ownBlock ≠ some w6.heap.size := fun e => Nat.lt_irrefl _ (MEM6.out.heap.own.base_ _ e).2
            have hbx := heap_alloc_new w6 (.cells #[.int .i64 p, .int .i64 q] 77)
            have hb6 := blk_cell MEM6.out.box 1
            simp only [List.getElem?_toArray, List.getElem?_cons_zero, List.getElem?_cons_succ] at hb6
            rw [hdk] at dc
            have hp0 : 0 ≤ p ∧ p ≤ far := by
              have := HO.out.inv.lo q (by omega) (by omega)
              rw [hdk] at this
              exact this
            have hK6 : K ≤ 6000 := by have := ol_len l l.length q; omega
            have h1 := hgh'.out
            have h2 := hLm'.out
            have h3 := HL5.out
            have hm6 : m ≤ 6000 := by omega
            have HINV0 := Lib.hid hinv0
            have HOUTS := Lib.hid houts
            have HOLE := Lib.hid hole
            have HROW := Lib.hid hrow
            have HK := Lib.hid hK
            have HBX := Lib.hid hbx
            have HDK := Lib.hid hdk
            obtain ⟨hp0, hp1⟩ := hp0
            have hp2 : p ≤ 1099511627776 := hp1
            clear hinv0 houts hole hrow hK hAq hcq hbx hdk hskip htake hcnt hqd h1 h2 h3 hdq
            go_wp2
            go_quiet (fail)
            go_wp2
            go_loopw [55] (fun i wy => ∃ (j : Nat) (A6 : Option Addr) (m6 c6 : Nat) (L6 : List Pop) (D6 : List Int), j ≤ K ∧ i = .int .i64 j ∧ Mem w wy n A c l (w.heap.size + 1) T H F A6 m6 c6 L6 D6 ∧ Hp d0 ltP L6 ∧ Inv n fr l D6 L6 ((q : Int) :: dn) p (td l ((ol l l.length q).drop j)) (7000 + j) ∧ L6.length ≤ L5.length + j ∧ dg D6 (q : Int) = p ∧ wy.heap[w6.heap.size]? = some (.cells #[.int .i64 p, .int .i64 q] 77 (0, 0)) ∧ (Value.slice A6 m6 c6).ownBlock ≠ some w6.heap.size) (fun i _ => K - (intOf i).toNat)
            case atStart => exact ⟨0, Ah, m, ch, L5, D, Nat.zero_le _, rfl, (MEM6.out.alloc _).drewN _, HHP5.out, HINV0.out, Nat.le_refl _, HDK.out, HBX.out, hrb⟩
            case round =>
              obtain ⟨j, A6, m6, c6, L6, D6, hj, rfl, hmem, hhp6, hinv, hlen6, hdq6, hbx6, hrb6⟩ := hrel
              clear HINV0 HHP5 HBX dc df tc hb6 hrb
              by_cases hjk : j < K
              · have hjl : j < (ol l l.length q).length := by rw [HK.out]; exact hjk
                obtain ⟨bq, offq, rfl, hbq, hcj⟩ := (HROW.out _ _ _ _ _ _ hmem).sl.2.atI hjl
                obtain ⟨i, hi, hil, hiq⟩ := ol_mem (List.getElem_mem hjl)
                rw [hi] at hcj
                obtain ⟨b, off, f, t, co, rfl, hbB, he, hcf, hct, hcc⟩ := (HSL0.out.keep hmem.lo (Nat.le_refl _)).atE hil
                have hg := HG.out
                have hen := hg.ends _ (List.getElem_mem hil)
                have hco := hg.cost _ (List.getElem_mem hil)
                have hco0 := HC.out _ (List.getElem_mem hil)
                have hel := List.getElem_mem hil
                have hlg : l.getD i (0, 0, 0) = l[i] := by rw [List.getD_eq_getElem?_getD, List.getElem?_eq_getElem hil]; rfl
                have htd : td l ((ol l l.length q).drop j) = l[i] :: td l ((ol l l.length q).drop (j + 1)) := by
                  rw [List.drop_eq_getElem_cons hjl, td, List.map_cons, hi, Int.toNat_natCast, hlg]; rfl
                rw [hlg] at hiq
                rw [he] at hen hco hco0 hel hiq htd
                obtain ⟨_, _, t0, t1⟩ := hen
                simp only at t0 t1 hco hco0 hiq
                obtain ⟨t, rfl⟩ := Int.eq_ofNat_of_zero_le t0
                have htn : t < n := by omega
                rw [htd] at hinv
                obtain ⟨yc, yf⟩ := own_at1 hmem.dlen hmem.dist htn
                have hdt : dg D6 (t : Int) = D6.getD t 0 := by rw [dg, Int.toNat_natCast]
                rw [← hdt] at yc
                have hb0 := blk_cell hbx6 0
                have hb1 := blk_cell hbx6 1
                have hx1 := blk_cell hmem.box 1
                simp only [List.getElem?_toArray, List.getElem?_cons_zero, List.getElem?_cons_succ] at hb0 hb1 hx1
                have z1 : w.heap.size + 1 < wr.heap.size := (hmem.dist.base_ _ rfl).2
                have z0 : w.heap.size < wr.heap.size := by omega
                have z2 : w6.heap.size < wr.heap.size := lt_of_block hbx6
                have z3 : b < wr.heap.size := by omega
                have z4 : (j : Int) < (K : Int) := by omega
                have z5 : (i : Int) < (l.length : Int) := by omega
                have z6 : ¬ w6.heap.size = w.heap.size + 1 := by omega
                have z7 : ¬ w.heap.size = w.heap.size + 1 := by omega
                have z8 : ¬ b = w.heap.size + 1 := by omega
                obtain ⟨co0, co1⟩ := hco
                have hstay := fun h => hinv.stay hiq hdq6 h
                have hgive := fun (L' : List Pop) h1 h2 => hinv.give (L' := L') hiq (List.mem_cons_self ..) hdq6 hel hco0 ⟨by simp only; omega, by simp only; omega⟩ (by omega) h1 h2
                simp only at hstay hgive
                have hdset := fun x => dg_set (D := D6) (t := (t : Int)) (v := (q : Int)) (x := x) (by omega) (by rw [hmem.dlen]; omega) (by omega)
                simp only [Int.toNat_natCast] at hgive hdset
                have HSTAY := Lib.hid hstay
                have HGIVE := Lib.hid hgive
                have HDS := Lib.hid hdset
                have HMEM := Lib.hid hmem
                have HBX := Lib.hid hbx6
                have HDQ := Lib.hid hdq6
                have hl6m := hmem.heap.len
                clear hstay hgive hdset hmem hbx6 hinv htd hlg hel he hi hjl hiq hdt t0 t1 hg hdq6
                by_cases hlt : p + co < dg D6 (t : Int)
                · have hqt : ¬ (q : Int) = (t : Int) := fun e => by have := HDQ.out; rw [e] at this; omega
                  have hdq7 : dg (D6.set t (p + co)) (q : Int) = p := by rw [HDS.out, if_neg hqt]; exact HDQ.out
                  have mem7 := (HMEM.out.set t (p + co) (by omega)).alloc (.cells #[.int .i64 f, .int .i64 t, .int .i64 co] 48)
                  have kpush := push_any ltP ltP_ord less_any w.heap.size H A6 m6 c6 L6 (p + co) t _ mem7.heap hhp6 (by have := HL5.out; omega) mem7.lo.size
                  have hbx7 := blk_alloc (blk_far HBX.out (p := ⟨w.heap.size + 1, t, none⟩) (by dsimp only; omega) (.int .i64 (p + co))) (.cells #[.int .i64 f, .int .i64 t, .int .i64 co] 48)
                  have hz7 : w6.heap.size < ((wr.setCell ⟨w.heap.size + 1, t, none⟩ (.int .i64 (p + co))).alloc (.cells #[.int .i64 f, .int .i64 t, .int .i64 co] 48)).heap.size := lt_of_block hbx7
                  have MEM7 := Lib.hid mem7
                  have KPUSH := Lib.hid kpush
                  have HBX7 := Lib.hid hbx7
                  have HDQ7 := Lib.hid hdq7
                  have hlt2 := Lib.hid hlt
                  have hpc : p + co < 1099511627776 + 1000000001 := by omega
                  generalize dg D6 (t : Int) = y at *
                  clear mem7 kpush hbx7 hdq7
                  go_wp2_with fail
                  refine KPUSH.out.mono ?_
                  rintro e w8 ⟨⟨v, rfl⟩, A8, c8, L8, hh8, hpm8, hhp8, hkp8, hat8⟩
                  have mem8 := MEM7.out.kp hkp8 hh8
                  have hbx8 := (hkp8.block _ hz7 (by omega) (fun e => hrb6 e.symm)).trans HBX7.out
                  have hrb8 : (Value.slice A8 (m6 + 1) c8).ownBlock ≠ some w6.heap.size := fun e => by
                    rcases hat8 _ e with h | h
                    · exact hrb6 h
                    · omega
                  have hinv8 := HGIVE.out L8 hlt2.out hpm8
                  have hl8 := hpm8.length_eq
                  have MEM8 := Lib.hid mem8
                  have HBX8 := Lib.hid hbx8
                  have HINV8 := Lib.hid hinv8
                  have HL8 := Lib.hid hl8
                  clear mem8 hbx8 hinv8 hkp8 hh8 hpm8 hat8 hl8
                  go_wp2
                  go_roundw
                  case rel => exact ⟨j + 1, A8, m6 + 1, c8, L8, D6.set t (p + co), by omega, by go_num, MEM8.out, hhp8, HINV8.out, by have := HL8.out; simp at this; omega, HDQ7.out, HBX8.out, hrb8⟩
                  case measure => simp [intOf]; omega
                · have hinv8 := HSTAY.out hlt
                  have hd1 : decide (p + co < dg D6 (t : Int)) = false := by simp; omega
                  have HINV8 := Lib.hid hinv8
                  generalize dg D6 (t : Int) = y at *
                  clear hinv8
                  go_wp2
                  go_roundw
                  case rel => exact ⟨j + 1, A6, m6, c6, L6, D6, by omega, by go_num, HMEM.out.alloc _, hhp6, HINV8.out, by omega, HDQ.out, blk_alloc HBX.out _, hrb6⟩
                  case measure => simp [intOf]; omega
              · obtain rfl : j = K := by omega
                rw [List.drop_eq_nil_of_le (by rw [HK.out]; exact Nat.le_refl _)] at hinv
                have h1 := hgh'.out
                have h2 := hLm'.out
                have h3 := HL5.out
                have h4 := HOUTS.out
                have h5 := HOLE.out
                have hinv' := recnt hinv (show L6.length ≤ 7000 by omega)
                have hms : L6.length + (l.length - outs l ((q : Int) :: dn)) + 1 ≤ L.length + (l.length - outs l dn) := by omega
                have HINV := Lib.hid hinv'
                have HMEM := Lib.hid hmem
                have HMS := Lib.hid hms
                clear hinv hinv' hmem h1 h2 h3 h4 h5 hms hrb6 hbx6 hdq6 hlen6
                go_wp2
                go_roundg (L6.length + (l.length - outs l ((q : Int) :: dn)))
                case measure => have h1 := hgh'.out; have h2 := HMS.out; omega
                case rel => exact ⟨A6, m6, c6, L6, D6, (q : Int) :: dn, p, ⟨HMEM.out, hhp6, HINV.out⟩, Nat.le_refl _, by have h1 := hgh'.out; have h2 := HMS.out; omega⟩
theorem run_any (n fr : Nat) (A : Option Addr) (c : Nat) (l : List E) (w : World) (hl : Sl w w.heap.size 3 ce A l) (hg : NetLaw.Good n l) (hf : fr < n) (hc0 : ∀ e ∈ l, 0 ≤ e.2.2) :
    Calls Try.prog 14 #[.agg #[.int .i64 n, .slice A l.length c], .int .i64 fr] w fun e w' => RunSays n fr l w e w' := run_wide n fr A c l w hl (Wide.of hg) hf hc0
end Go.Proofs.Ytjebckehmmbkbaa.Dijk
