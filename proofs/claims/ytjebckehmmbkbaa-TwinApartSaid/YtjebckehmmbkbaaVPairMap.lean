/- A map from pairs of places to numbers that counts a list of pairs: what a look-up, an entry and a store in it do. -/
import Derived.Test.YtjebckehmmbkbaaVKit
import Derived.WideKeyEntry
import Derived.DeepKeys4
import Derived.MapViews
import Derived.ChangeSame
import Derived.ChangeMaps5
import Derived.Maps.RangeRun
import Derived.Maps.RangeWalk
import Derived.Carry
namespace Go.Proofs.Ytjebckehmmbkbaa.PairMap
open Go.RowKit Go.Proofs.Ytjebckehmmbkbaa
open Go.ChangeMaps (setBlock heap_setBlock_same heap_setBlock_other)
open Go.MapKept (Stamped stamped_push stamped_empty stamped_modify)
open Go.WideMaps (KeyLaw)
open Go.ChangeMaps (modify_eq_set)
set_option linter.unusedSimpArgs false
set_option linter.unusedVariables false
/-- a pair as a key -/
def pk (p : Int × Int) : Value := .agg #[.int .i64 p.1, .int .i64 p.2]
def Wf (p : Int × Int) : Prop := (Lit.int .i64 p.1).wf = true ∧ (Lit.int .i64 p.2).wf = true
theorem wf_of {x : Int} (h : -9223372036854775808 ≤ x ∧ x ≤ 9223372036854775807) : (Lit.int .i64 x).wf = true := by
  simp [Lit.wf, IntKind.min, IntKind.max, IntKind.bits, IntKind.signed]
  omega
theorem laid : laidOutB Try.prog = true := by kernel_rfl
theorem row : 46 < Try.prog.types.size := of_decide_eq_true (by kernel_rfl)
theorem deep : Try.prog.keyTypeAt (Try.prog.types.size + 1) 46 = true := by kernel_rfl
theorem law : KeyLaw Try.prog 46 := deep_law_laid laid (m := 2) (by omega) row (by kernel_rfl) (by rw [Try.underlying46])
theorem und : Try.prog.underlying 43 = some (.map 46 3) := Try.underlying43
theorem zeroI (w : World) : (zeroValue 3).run Try.prog w = .ok (.int .i64 0) w := by kernel_rfl
theorem cells2 : Try.prog.cellsOf 46 = 2 := by kernel_rfl
theorem cells1 : Try.prog.cellsOf 3 = 1 := by kernel_rfl
theorem key_some (w : World) {p : Int × Int} (h : Wf p) : ∃ kl, keyOf Try.prog 46 (pk p) = some kl := by
  have h0 : DataW.trod (H := Unit) (fun _ => ()) Try.prog w 0 (fun _ => true) false 1 3 ((([Value.int .i64 p.1, Value.int .i64 p.2] : List Value).drop 0).take (Try.prog.cellsOf 3)) = some (.lit (.int .i64 p.1), []) := by
    rw [cells1]; exact Go.ChangeShapes.trod_int_mk 0 Try.underlying3 h.1
  have h1 : DataW.trod (H := Unit) (fun _ => ()) Try.prog w 0 (fun _ => true) false 1 3 ((([Value.int .i64 p.1, Value.int .i64 p.2] : List Value).drop 1).take (Try.prog.cellsOf 3)) = some (.lit (.int .i64 p.2), []) := by
    rw [cells1]; exact Go.ChangeShapes.trod_int_mk 0 Try.underlying3 h.2
  have h2 := Go.ChangeShapes.trod_struct2_mk (H := Unit) (enc := fun _ => ()) (P := Try.prog) (w := w) (base := 0) (spare := fun _ => true) (held := false) (n := 1) (cs := [Value.int .i64 p.1, Value.int .i64 p.2]) Try.underlying46 (by rw [cells2]; rfl) h0 h1
  exact ⟨_, (keyOf_asKey deep (by rw [Try.underlying46]) (v := pk p) (by simp [Value.formed, Try.underlying46, cells2, pk]) ⟨2, h2⟩).1⟩
theorem pk_inj {p q : Int × Int} (h : pk p = pk q) : p = q := by
  unfold pk at h
  injection h with h
  injection h with h
  injection h with h1 h2
  injection h2 with h2 _
  injection h1 with _ h1
  injection h2 with _ h2
  exact Prod.ext h1 h2
/-- block b is a map that counts the pairs of a list -/
def CMap (w : World) (b : Nat) (L : List (Int × Int)) : Prop :=
  ∃ es ck, w.heap[b]? = some (.map es ck) ∧ Stamped es ck ∧ (∀ x ∈ es.toList, ∃ p, Wf p ∧ x.key = pk p ∧ x.val = .int .i64 (L.count p : Int)) ∧ ∀ p ∈ L, ∃ x ∈ es.toList, x.key = pk p
section
variable {w w' : World} {b : Nat} {L : List (Int × Int)} {p : Int × Int}
theorem CMap.same (h : CMap w b L) (hb : w'.heap[b]? = w.heap[b]?) : CMap w' b L := by
  obtain ⟨es, ck, h1, h2⟩ := h
  exact ⟨es, ck, hb.trans h1, h2⟩
theorem CMap.lt (h : CMap w b L) : b < w.heap.size := by
  obtain ⟨es, ck, h1, _⟩ := h
  exact (Array.getElem?_eq_some_iff.1 h1).1
theorem CMap.keep (h : CMap w b L) (hb : Below w.heap.size w w') : CMap w' b L := h.same (hb.block b h.lt)
theorem CMap.made (w : World) : CMap (w.alloc (.map #[] 0)) w.heap.size [] := ⟨#[], 0, (Go.MapKept.heap_alloc w _).1, stamped_empty 0, by simp, by simp⟩
theorem CMap.look (h : CMap w b L) (hp : Wf p) : (Instr.lookup 43 (.map (some b)) (pk p) false).run Try.prog w = .ok (.int .i64 (L.count p : Int)) w := by
  obtain ⟨es, ck, hb, hst, hall, hin⟩ := h
  obtain ⟨kl, hk⟩ := key_some w hp
  have hks : ∀ e ∈ es.toList, ∃ l, keyOf Try.prog 46 e.key = some l := fun e he => by
    obtain ⟨q, hq, e1, _⟩ := hall e he
    rw [e1]
    exact key_some w hq
  have hchk := law.check w es.isEmpty hk
  rcases law.find w hk es.toList hks with ⟨h1, h2⟩ | ⟨j, e, h1, h2, h3⟩
  · have h0 : L.count p = 0 := List.count_eq_zero.2 (fun hm => by obtain ⟨x, hx, e⟩ := hin p hm; exact h2 x hx e)
    rw [h0]
    simp [Instr.lookup, run_underlying und, Go.MapKept.run_getObj_map hb, hchk, h1, zeroI, Result.andThen]
  · obtain ⟨q, hq, e1, e2⟩ := hall e (List.mem_of_getElem? h2)
    have hqp : q = p := pk_inj (by rw [← e1, h3])
    subst hqp
    rw [e2] at h1
    simp [Instr.lookup, run_underlying und, Go.MapKept.run_getObj_map hb, hchk, h1, zeroI, Result.andThen]
theorem count_snoc (L : List (Int × Int)) (p q : Int × Int) : (L ++ [p]).count q = L.count q + if p = q then 1 else 0 := by
  rw [List.count_append, List.count_singleton]
  by_cases h : p = q
  · subst h; simp
  · simp [h]
/-- m[p]++: the entry, then the store -/
theorem CMap.entry (h : CMap w b L) (hp : Wf p) : ∃ es1 ck1 v0 st, (Instr.mapEntry 43 (.map (some b)) (pk p)).run Try.prog w = .ok (.tuple #[v0, .int .i64 ((st : Nat) : Int)]) (setBlock w b (.map es1 ck1)) ∧ CMap (setBlock w b (.map es1 ck1)) b L ∧
    ∀ w2 : World, w2.heap[b]? = some (.map es1 ck1) → ∃ es2, (Instr.entryStore 43 (.map (some b)) (.int .i64 ((st : Nat) : Int)) (.int .i64 ((L.count p : Int) + 1))).run Try.prog w2 = .ok () (setBlock w2 b (.map es2 ck1)) ∧ CMap (setBlock w2 b (.map es2 ck1)) b (L ++ [p]) := by
  obtain ⟨es, ck, hb, hst, hall, hin⟩ := h
  obtain ⟨s1, s2, s3⟩ := hst
  obtain ⟨kl, hk⟩ := key_some w hp
  have hks : ∀ e ∈ es.toList, ∃ l, keyOf Try.prog 46 e.key = some l := fun e he => by
    obtain ⟨q, hq, e1, _⟩ := hall e he
    rw [e1]
    exact key_some w hq
  have hchk := law.check w false hk
  have hkz := law.stays w hk
  rcases law.find w hk es.toList hks with ⟨h1, h2⟩ | ⟨j, e, h1, h2, h3⟩
  · have h0 : L.count p = 0 := List.count_eq_zero.2 (fun hm => by obtain ⟨x, hx, e⟩ := hin p hm; exact h2 x hx e)
    refine ⟨es.push ⟨pk p, .int .i64 0, ck⟩, ck + 1, .int .i64 0, ck, ?_, ?_, fun w2 hw2 => ⟨es.push ⟨pk p, .int .i64 ((L.count p : Int) + 1), ck⟩, ?_, ?_⟩⟩
    · simp [Instr.mapEntry, run_underlying und, Go.MapKept.run_getObj_map hb, hchk, h1, zeroI, Go.MapKept.run_setObj_map _ hb, Result.andThen, setBlock, goInt]
    · refine ⟨_, _, heap_setBlock_same hb _, stamped_push ⟨s1, s2, s3⟩ h2, fun x hx => ?_, fun q hq => ?_⟩
      · rw [Array.toList_push, List.mem_append, List.mem_singleton] at hx
        rcases hx with hx | rfl
        · exact hall x hx
        · exact ⟨p, hp, rfl, by rw [h0]; rfl⟩
      · obtain ⟨x, hx, e⟩ := hin q hq
        exact ⟨x, by rw [Array.toList_push, List.mem_append]; exact .inl hx, e⟩
    · have hidx : (es.push ⟨pk p, .int .i64 0, ck⟩).findIdx? (fun e => ((e.born : Nat) : Int) == ((ck : Nat) : Int)) = some es.size := by
        rw [Go.WideElems.findIdx_arr]
        exact Go.WideElems.findIdx_born (l := (es.push ⟨pk p, .int .i64 0, ck⟩).toList) (j := es.size) (e0 := ⟨pk p, .int .i64 0, ck⟩) (by
          simp only [Array.toList_push, List.map_append, List.map_cons, List.map_nil]
          refine List.nodup_append.2 ⟨s2, by simp, fun a ha c hc e1 => ?_⟩
          simp only [List.mem_singleton] at hc
          obtain ⟨x, hx, rfl⟩ := List.mem_map.1 ha
          have := s1 x hx
          omega) (by simp)
      have hmod : (es.push ⟨pk p, .int .i64 0, ck⟩).modify es.size (fun e => { e with val := Value.int .i64 ((L.count p : Int) + 1) }) = es.push ⟨pk p, .int .i64 ((L.count p : Int) + 1), ck⟩ := by
        apply Array.ext'
        rw [Array.toList_modify, Array.toList_push, Array.toList_push, ← Array.length_toList, Go.WideElems.modify_last]
      simp [Instr.entryStore, Go.MapKept.run_getObj_map hw2, asInt, asIntOf, goInt, hidx, hmod, Go.MapKept.run_setObj_map _ hw2, Result.andThen, setBlock]
    · refine ⟨_, _, heap_setBlock_same hw2 _, stamped_push ⟨s1, s2, s3⟩ h2, fun x hx => ?_, fun q hq => ?_⟩
      · rw [Array.toList_push, List.mem_append, List.mem_singleton] at hx
        rcases hx with hx | rfl
        · obtain ⟨q, hq, e1, e2⟩ := hall x hx
          have hne : p ≠ q := fun e => h2 x hx (by rw [e1, e])
          exact ⟨q, hq, e1, by rw [e2, count_snoc, if_neg hne]; rfl⟩
        · exact ⟨p, hp, rfl, by rw [count_snoc, if_pos rfl]; simp⟩
      · rcases List.mem_append.1 hq with hq | hq
        · obtain ⟨x, hx, e⟩ := hin q hq
          exact ⟨x, by rw [Array.toList_push, List.mem_append]; exact .inl hx, e⟩
        · rw [List.mem_singleton] at hq
          subst hq
          exact ⟨_, by rw [Array.toList_push, List.mem_append]; exact .inr (List.mem_singleton.2 rfl), rfl⟩
  · obtain ⟨q, hq, e1, e2⟩ := hall e (List.mem_of_getElem? h2)
    have hqp : q = p := pk_inj (by rw [← e1, h3])
    subst hqp
    have hj : es[j]? = some e := by simpa using h2
    have hsame : es.modify j (fun e => { e with key := pk q }) = es := by
      apply Array.ext'
      rw [Array.toList_modify, modify_eq_set _ _ _ _ h2]
      have : ({ e with key := pk q } : MapEntry) = e := by rw [← h3]
      rw [this]
      exact Go.WideElems.set_self _ _ _ h2
    have hother : ∀ i x, es[i]? = some x → i ≠ j → x.key ≠ pk q := fun i x hi hij hx => by
      obtain ⟨hi1, hi2⟩ := Array.getElem?_eq_some_iff.1 hi
      obtain ⟨hj1, hj2⟩ := Array.getElem?_eq_some_iff.1 hj
      have hk2 : (es.toList.map (·.key))[i]'(by simpa using hi1) = (es.toList.map (·.key))[j]'(by simpa using hj1) := by
        simp [hi2, hj2, hx, h3]
      exact hij ((List.getElem_inj s3).1 hk2)
    refine ⟨es, ck, e.val, e.born, ?_, ?_, fun w2 hw2 => ⟨es.modify j (fun x => { x with val := Value.int .i64 ((L.count q : Int) + 1) }), ?_, ?_⟩⟩
    · simp [Instr.mapEntry, run_underlying und, Go.MapKept.run_getObj_map hb, hchk, h1, hj, h3, hkz, hsame, Go.MapKept.run_setObj_map _ hb, Result.andThen, setBlock, goInt]
    · exact ⟨es, ck, heap_setBlock_same hb _, ⟨s1, s2, s3⟩, hall, hin⟩
    · have hidx : es.findIdx? (fun x => ((x.born : Nat) : Int) == ((e.born : Nat) : Int)) = some j := by
        rw [Go.WideElems.findIdx_arr]
        exact Go.WideElems.findIdx_born s2 h2
      simp [Instr.entryStore, Go.MapKept.run_getObj_map hw2, asInt, asIntOf, goInt, hidx, Go.MapKept.run_setObj_map _ hw2, Result.andThen, setBlock]
    · refine ⟨_, _, heap_setBlock_same hw2 _, stamped_modify ⟨s1, s2, s3⟩ j _ (fun _ _ => rfl) (fun _ _ _ => rfl), fun x hx => ?_, fun r hr => ?_⟩
      · obtain ⟨i, hi⟩ := List.mem_iff_getElem?.1 hx
        rw [Array.getElem?_toList, Array.getElem?_modify] at hi
        by_cases hij : j = i
        · subst hij
          rw [if_pos rfl, hj] at hi
          simp only [Option.map_some, Option.some.injEq] at hi
          subst hi
          exact ⟨q, hp, h3, by rw [count_snoc, if_pos rfl]; simp⟩
        · rw [if_neg hij] at hi
          obtain ⟨r, hr, e3, e4⟩ := hall x (Array.mem_toList_iff.2 (Array.mem_of_getElem? hi))
          have hne : q ≠ r := fun e5 => hother i x hi (fun e6 => hij e6.symm) (by rw [e3, e5])
          exact ⟨r, hr, e3, by rw [e4, count_snoc, if_neg hne]; rfl⟩
      · have hr2 : ∃ x ∈ es.toList, x.key = pk r := by
          rcases List.mem_append.1 hr with hr | hr
          · exact hin r hr
          · rw [List.mem_singleton] at hr
            subst hr
            exact ⟨e, List.mem_of_getElem? h2, h3⟩
        obtain ⟨x, hx, hxk⟩ := hr2
        obtain ⟨i, hi⟩ := List.mem_iff_getElem?.1 hx
        rw [Array.getElem?_toList] at hi
        by_cases hij : j = i
        · subst hij
          rw [hj] at hi
          injection hi with hi
          subst hi
          exact ⟨{ e with val := Value.int .i64 ((L.count q : Int) + 1) }, Array.mem_toList_iff.2 (Array.mem_of_getElem? (i := j) (by rw [Array.getElem?_modify, if_pos rfl, hj]; rfl)), hxk⟩
        · exact ⟨x, Array.mem_toList_iff.2 (Array.mem_of_getElem? (i := i) (by rw [Array.getElem?_modify, if_neg hij, hi])), hxk⟩
end
theorem below_setBlock {B b ck : Nat} {a w : World} {es : Array MapEntry} (h : Below B a w) (hb : w.heap[b]? = some (.map es ck)) (hB : B ≤ b) (o : Obj) : Below B a (setBlock w b o) :=
  ⟨h.os, h.tape, h.output, by have := h.size; simpa [setBlock] using this, fun k hk => by rw [heap_setBlock_other hb o (by omega)]; exact h.block k hk⟩
theorem CMap.blk {w : World} {b : Nat} {L : List (Int × Int)} (h : CMap w b L) : ∃ es ck, w.heap[b]? = some (.map es ck) := by
  obtain ⟨es, ck, h1, _⟩ := h
  exact ⟨es, ck, h1⟩
section
variable {w : World} {b g ck : Nat} {es : Array MapEntry} {L : List (Int × Int)}
theorem cell_setBlock (hb : w.heap[b]? = some (.map es ck)) (hne : g ≠ b) (o : Obj) (i : Nat) : (setBlock w b o).cell? ⟨g, i, none⟩ = w.cell? ⟨g, i, none⟩ := by
  simp only [World.cell?, heap_setBlock_other hb o hne]
theorem CMap.other (h : CMap w g L) (hb : w.heap[b]? = some (.map es ck)) (hne : g ≠ b) (o : Obj) : CMap (setBlock w b o) g L := h.same (heap_setBlock_other hb o hne)
end
theorem filt_lt {α : Type} {p q : α → Bool} {l : List α} (h : ∀ x, q x = true → p x = true) {e : α} (he : e ∈ l) (hp : p e = true) (hq : q e = false) : (l.filter q).length < (l.filter p).length := by
  have hle : ∀ r : List α, (r.filter q).length ≤ (r.filter p).length := by
    intro r
    induction r with
    | nil => exact Nat.le_refl _
    | cons x r ih =>
      rw [List.filter_cons, List.filter_cons]
      cases hqx : q x with
      | true => rw [if_pos rfl, if_pos (h x hqx)]; simp; exact ih
      | false =>
        rw [if_neg (by decide)]
        split
        · simp; omega
        · exact ih
  induction l with
  | nil => cases he
  | cons x r ih =>
    rw [List.filter_cons, List.filter_cons]
    rcases List.mem_cons.1 he with rfl | he
    · rw [hp, hq, if_neg (by decide), if_pos rfl]
      have := hle r
      simp; omega
    · have := ih he
      cases hqx : q x with
      | true => rw [if_pos rfl, if_pos (h x hqx)]; simp; omega
      | false =>
        rw [if_neg (by decide)]
        split
        · simp; omega
        · exact this
theorem left_list (es : Array MapEntry) (seen : Array Nat) : (leftOf es seen).toList = es.toList.filter fun e => !seen.contains e.born := by
  unfold leftOf
  exact Array.toList_filter
theorem left_lt {es : Array MapEntry} {seen : Array Nat} {e : MapEntry} (he : e ∈ (leftOf es seen).toList) : (leftOf es (seen.push e.born)).size < (leftOf es seen).size := by
  have h1 : (leftOf es (seen.push e.born)).size = (leftOf es (seen.push e.born)).toList.length := rfl
  have h2 : (leftOf es seen).size = (leftOf es seen).toList.length := rfl
  rw [h1, h2, left_list, left_list]
  rw [left_list, List.mem_filter] at he
  refine filt_lt (fun x hx => ?_) he.1 he.2 (by simp)
  simp at hx ⊢
  exact hx.1
theorem left_none {es : Array MapEntry} {seen : Array Nat} (h : (leftOf es seen).size = 0) : ∀ e ∈ es.toList, e.born ∈ seen := fun e he => by
  unfold leftOf at h
  have h2 : es.filter (fun e => !seen.contains e.born) = #[] := Array.eq_empty_of_size_eq_zero h
  rw [Array.filter_eq_empty_iff] at h2
  have := h2 e (by simpa using he)
  simpa using this
theorem left_mem {es : Array MapEntry} {seen : Array Nat} {e : MapEntry} (he : e ∈ (leftOf es seen).toList) : e ∈ es.toList := by
  unfold leftOf at he
  rw [Array.toList_filter, List.mem_filter] at he
  exact he.1
/-- the step of 'for k, n := range m' -/
theorem wpList_next_map {P : Program} (w : World) {ops : Array Oper} {rest : List Oper} {o : Oper} {a : Act} {Q : Exit → Act → World → Prop} (hg : o.guard = none) (it : Operand) (hop : o.op = Op.next it false) (r bm since c0 : Nat) (seen : Array Nat) (es : Array MapEntry) (ck : Nat)
    (hit : a.eval it = .pointer (some ⟨r, 0, none⟩)) (hr : w.heap[r]? = some (.mapIter (some bm) since seen c0)) (hb : w.heap[bm]? = some (.map es ck)) (hold : ∀ x ∈ es.toList, x.born < since) (hsc : since ≤ c0)
    (hDone : Hid ((leftOf es seen).size = 0) → wpList P ops Q rest (a.put o.dst (.tuple #[.bool false])) w)
    (hMore : ∀ e, Hid (e ∈ (leftOf es seen).toList) → ∀ w1 : World, Hid (w1 = w ∨ w1 = w.drew) → wpList P ops Q rest (a.put o.dst (.tuple #[.bool true, e.key, e.val])) (setBlock w1 r (.mapIter (some bm) since (seen.push e.born) ck))) :
    wpList P ops Q (o :: rest) a w := by
  refine wpList_plain hg fun K' hK' => ?_
  unfold Oper.wp
  rcases run_next_at (P := P) w o.type r bm since c0 seen es ck hr hb hold hsc with ⟨h0, hrun⟩ | ⟨e, he, w1, hw1, hrun⟩
  · simp [execOp, hop, hit, hrun, Result.andThen]
    exact hK' _ _ (hDone (Lib.hid h0))
  · simp [execOp, hop, hit, hrun, Result.andThen]
    exact hK' _ _ (hMore e (Lib.hid he) w1 (Lib.hid hw1))
theorem any_set_same {w : World} {b : Nat} {o' : Obj} (hb : w.heap[b]? = some o') (o : Obj) : (setBlock w b o).heap[b]? = some o := by
  have hlt := (Array.getElem?_eq_some_iff.1 hb).1
  simp [setBlock, Array.getElem?_setIfInBounds, hlt]
theorem any_set_other {w : World} {b g : Nat} (o : Obj) (h : g ≠ b) : (setBlock w b o).heap[g]? = w.heap[g]? := by
  simp only [setBlock, Array.getElem?_setIfInBounds]
  rw [if_neg (fun e => h e.symm)]
theorem below_any {B b : Nat} {a w : World} (h : Below B a w) (hB : B ≤ b) (o : Obj) : Below B a (setBlock w b o) :=
  ⟨h.os, h.tape, h.output, by have := h.size; simpa [setBlock] using this, fun k hk => by rw [any_set_other o (by omega)]; exact h.block k hk⟩
end Go.Proofs.Ytjebckehmmbkbaa.PairMap
