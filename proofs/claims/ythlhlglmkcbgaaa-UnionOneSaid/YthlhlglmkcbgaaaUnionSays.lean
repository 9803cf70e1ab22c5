/- What union.Of and union.Many answer at whatever arguments. -/
import Derived.Test.YthlhlglmkcbgaaaUnionOf
namespace Go.Proofs.Ythlhlglmkcbgaaa.Union
open Go.RowKit Go.Proofs.Ythlhlglmkcbgaaa UnionLaw
set_option linter.unusedSimpArgs false
set_option linter.unusedVariables false
/-- what Of and Many take -/
def OkU (n : Int) (l : List (Int × Int)) : Prop := 0 ≤ n ∧ n ≤ 64 ∧ l.length ≤ 600 ∧ InR n.toNat l
structure OfFact (n : Int) (l : List (Int × Int)) (m : Nat) (er : Int) (out : List Int) : Prop where
  no : ¬ OkU n l → m = 0 ∧ (er != 0) = true ∧ (er == 0) = false
  yes : OkU n l → er = 0 ∧ (m : Int) = n ∧ ∃ f : Nat → Nat, (∀ i, f i ≤ i) ∧ Inv (pn l) f ∧ out = outL f m
def OfSays (n : Int) (l : List (Int × Int)) (w : World) (e : Ending) (w' : World) : Prop :=
  ∃ (A : Option Addr) (m c : Nat) (er : Int) (out : List Int), e = .returned (.tuple #[.slice A m c, .int .i64 er]) ∧ Own w' w.heap.size 3 1 ci (.slice A m c) out ∧ Below w.heap.size w w' ∧ Hid (OfFact n l m er out)
theorem of_says (n : Int) (A : Option Addr) (m c : Nat) (l : List (Int × Int)) (w : World) (hm : l.length = m) (hlen : m ≤ 9223372036854775807) (hs : Sl w w.heap.size 2 cp A l) :
    Calls Try.prog 29 #[.int .i64 n, .slice A m c] w fun e w' => OfSays n l w e w' := by
  subst hm
  by_cases h : OkU n l
  · obtain ⟨h0, h1, h2, h3⟩ := h
    obtain ⟨k, rfl⟩ := Int.eq_ofNat_of_zero_le h0
    have h3' : InR k l := by simpa using h3
    refine (of_yes k A c l w (by omega) h2 h3' hs).mono ?_
    rintro e w1 ⟨f, A1, c1, hf, hi, rfl, hown, hb⟩
    exact ⟨A1, k, c1, 0, _, rfl, hown, hb, Lib.hid ⟨fun hn => absurd ⟨h0, h1, h2, h3⟩ hn, fun _ => ⟨rfl, rfl, f, hf, hi, rfl⟩⟩⟩
  · refine (of_no n A c l w h hlen hs).mono ?_
    rintro e w1 ⟨rfl, hb⟩
    exact ⟨none, 0, 0, oe n l, [], rfl, Own.nil_, hb, Lib.hid ⟨fun _ => ⟨rfl, (oe_ne n l).1, (oe_ne n l).2⟩, fun hy => absurd hy h⟩⟩
structure ManyFact (n : Int) (l : List (Int × Int)) (k : Nat) (er : Int) : Prop where
  yes : OkU n l → er = 0 ∧ ∃ f : Nat → Nat, (∀ i, f i ≤ i) ∧ Inv (pn l) f ∧ k = many f n.toNat
  bd : k ≤ 64
def ManySays (n : Int) (l : List (Int × Int)) (w : World) (e : Ending) (w' : World) : Prop :=
  ∃ (k : Nat) (er : Int), e = .returned (.tuple #[.int .i64 k, .int .i64 er]) ∧ Below w.heap.size w w' ∧ Hid (ManyFact n l k er)
set_option maxRecDepth 100000 in
set_option maxHeartbeats 1000000 in
theorem many_no (n : Int) (A : Option Addr) (c : Nat) (l : List (Int × Int)) (w : World) (h : ¬ (0 ≤ n ∧ n ≤ 64 ∧ l.length ≤ 600 ∧ InR n.toNat l)) (hlen : l.length ≤ 9223372036854775807) (hs : Sl w w.heap.size 2 cp A l) :
    Calls Try.prog 38 #[.int .i64 n, .slice A l.length c] w fun e w' => e = .returned (.tuple #[.int .i64 0, .int .i64 (oe n l)]) ∧ Below w.heap.size w w' := by
  have KO := Lib.hid (of_no n A c l w h hlen hs)
  clear h
  generalize oe n l = er at *
  go_enter Try.func38, Try.ntmps38
  go_wp2_with fail
  refine KO.out.mono ?_
  rintro e w1 ⟨rfl, hb⟩
  clear hs
  go_wp2
  refine wp_loop_rounds 1 ?_
  rw [rounds_succ]
  go_wp2
  go_ret2
  exact ⟨rfl, hb⟩
theorem many_says (n : Int) (A : Option Addr) (m c : Nat) (l : List (Int × Int)) (w : World) (hm : l.length = m) (hlen : m ≤ 9223372036854775807) (hs : Sl w w.heap.size 2 cp A l) :
    Calls Try.prog 38 #[.int .i64 n, .slice A m c] w fun e w' => ManySays n l w e w' := by
  subst hm
  by_cases h : OkU n l
  · obtain ⟨h0, h1, h2, h3⟩ := h
    obtain ⟨k, rfl⟩ := Int.eq_ofNat_of_zero_le h0
    have h3' : InR k l := by simpa using h3
    refine (many_yes k A c l w (by omega) h2 h3' hs).mono ?_
    rintro e w1 ⟨f, hf, hi, rfl, hb⟩
    exact ⟨many f k, 0, rfl, hb, Lib.hid ⟨fun _ => ⟨rfl, f, hf, hi, rfl⟩, by have := many_le f k; omega⟩⟩
  · refine (many_no n A c l w h hlen hs).mono ?_
    rintro e w1 ⟨rfl, hb⟩
    exact ⟨0, oe n l, rfl, hb, Lib.hid ⟨fun hy => absurd hy h, by omega⟩⟩
end Go.Proofs.Ythlhlglmkcbgaaa.Union
