/- slices.Concat as SpanNeck calls it: a list without one of its places. -/
import Derived.Test.YtdpjbjgecmnmnaaNeckWalks
import Derived.Test.YtdpjbjgecmnmnaaConcatInt
namespace Go.Proofs.Ytdpjbjgecmnmnaa.Span
open Go.RowKit Go.Proofs.Ytdpjbjgecmnmnaa NetLaw SpanLaw NeckLaw Go.Proofs.Ytdpjbjgecmnmnaa.Net Go.Proofs.Ytdpjbjgecmnmnaa.Refs Go.Proofs.Ytdpjbjgecmnmnaa.Std
set_option linter.unusedSimpArgs false
set_option linter.unusedVariables false
theorem sl_drop {w : World} {B b off : Nat} {l : List Int} (h : Sl w B 1 ci (some ⟨b, off, none⟩) l) (k : Nat) (hk : k < l.length) : Sl w B 1 ci (some ⟨b, off + k, none⟩) (l.drop k) := by
  intro hl
  obtain ⟨b', off', hA, hb, hc⟩ := h (by omega)
  injection hA with hA
  injection hA with h1 h2
  subst h1 h2
  refine ⟨b, off + k, rfl, hb, fun i hi j hj => ?_⟩
  rw [List.length_drop] at hi
  have := hc (k + i) (by omega) j hj
  rw [List.getElem_drop]
  rw [← this]
  congr 2
  omega
theorem sl_take2 {w : World} {B : Nat} {A : Option Addr} {l : List Int} (h : Sl w B 1 ci A l) (k : Nat) : Sl w B 1 ci A (l.take k) := by
  intro hl
  rw [List.length_take] at hl
  obtain ⟨b, off, hA, hb, hc⟩ := h (by omega)
  refine ⟨b, off, hA, hb, fun i hi j hj => ?_⟩
  rw [List.length_take] at hi
  have := hc i (by omega) j hj
  rw [this, List.getElem_take]
theorem concat_wo {w0 wr : World} {N : Int} {A : Option Addr} {c : Nat} {l : List E} (F : From w0 wr N A c l wr) (t : TypeId) (bo oo co' k m : Nat) (out : List Nat) (hm : out.length = m) (hk : k < m) (h6 : m ≤ 64) (hcp : m ≤ co') (hz : Sl wr wr.heap.size 1 ci (some ⟨bo, oo, none⟩) (zs out)) :
    Calls Try.prog 48 #[.slice (some ⟨wr.heap.size, 0, none⟩) 2 2] ((wr.alloc (.cells #[.slice (some ⟨bo, oo, none⟩) k co', .slice (if co' = k + 1 then some ⟨bo, oo, none⟩ else some ⟨bo, oo + (k + 1), none⟩) (m - (k + 1)) (co' - (k + 1))] t)).drew) fun e w' => ∃ A5 c5, e = .returned (.slice A5 (k + (m - (k + 1))) c5) ∧ Sl w' w'.heap.size 1 ci A5 (zs (wo out k)) ∧ From w0 wr N A c l w' := by
  obtain ⟨AD, hAD⟩ : ∃ AD : Option Addr, AD = (if co' = k + 1 then some ⟨bo, oo, none⟩ else some ⟨bo, oo + (k + 1), none⟩) := ⟨_, rfl⟩
  rw [← hAD]
  have hzl : (zs out).length = m := by rw [zs_len]; exact hm
  have hsd : Sl wr wr.heap.size 1 ci AD ((zs out).drop (k + 1)) := by
    by_cases hlast : k + 1 < m
    · rw [hAD, if_neg (by omega)]
      exact sl_drop hz (k + 1) (by omega)
    · intro h
      rw [List.length_drop, hzl] at h
      omega
  have hHas : AD ≠ none := by rw [hAD]; split <;> simp
  have hB : Below wr.heap.size wr (wr.alloc (.cells #[.slice (some ⟨bo, oo, none⟩) k co', .slice AD (m - (k + 1)) (co' - (k + 1))] t)).drew := ((Below.refl _ _).alloc (Nat.le_refl _) _).drew
  have hbx := heap_alloc_new wr (.cells #[.slice (some ⟨bo, oo, none⟩) k co', .slice AD (m - (k + 1)) (co' - (k + 1))] t)
  have c0 := blk_cell hbx 0
  have c1 := blk_cell hbx 1
  simp only [List.getElem?_toArray, List.getElem?_cons_zero, List.getElem?_cons_succ] at c0 c1
  have e : zs (wo out k) = (zs out).take k ++ (zs out).drop (k + 1) := by simp [zs, wo, List.map_take, List.map_drop]
  refine (concat2I wr.heap.size 2 (some ⟨bo, oo, none⟩) AD k (m - (k + 1)) co' (co' - (k + 1)) ((zs out).take k) ((zs out).drop (k + 1)) ((wr.alloc (.cells #[.slice (some ⟨bo, oo, none⟩) k co', .slice AD (m - (k + 1)) (co' - (k + 1))] t)).drew) c0 c1 (by simp) (((sl_take2 hz k).keep hB (Nat.le_refl _)).more hB.size) ((hsd.keep hB (Nat.le_refl _)).more hB.size) (by rw [List.length_take]; omega) (by rw [List.length_drop]; omega) (fun h => by cases h) (fun h => absurd h hHas) (by omega)).mono ?_
  rintro e2 w' ⟨A5, c5, h1, h2, h3⟩
  rw [← e] at h2
  exact ⟨A5, c5, h1, h2.sl.2, F.go (hB.trans (h3.mono hB.size))⟩
end Go.Proofs.Ytdpjbjgecmnmnaa.Span
