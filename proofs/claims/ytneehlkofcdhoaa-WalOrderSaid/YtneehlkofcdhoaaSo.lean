/- slices.Sort on a row of the call's own. -/
import Derived.Test.YtneehlkofcdhoaaDj
import Derived.Test.YtneehlkofcdhoaaSort
import Derived.Sort.OwnSortedInts
namespace Go.Proofs.Ytneehlkofcdhoaa
open Go
set_option linter.unusedSimpArgs false
open Go.RowKit (intOf)
abbrev sortI (zs : List Int) : List Int := zs.mergeSort fun x y => decide (x ≤ y)
theorem sort_spec {w : World} {B : Nat} {v : Value} {zs : List Int} (ho : w.ownsRow B 3 1 v zs.length (ints zs)) (hl : zs.length < 4611686018427387904) :
    Calls Try.prog 51 #[v] w (Ret fun _ w' => w'.ownsRow B 3 1 v zs.length (ints (sortI zs)) ∧ Keep (fun b => v.ownBlock = some b) w w') := by
  obtain ⟨h1, ⟨rfl, h2⟩ | ⟨g, cap, cur, rfl, hB, hg, hn, hm, hs, ht⟩⟩ := id ho
  · refine (Try.slices_Sort_int_none none 0 w).mono fun en w' h => ?_
    obtain ⟨rfl, rfl⟩ := h
    have : zs = [] := List.eq_nil_of_length_eq_zero h2
    subst this
    exact ⟨by simpa using ho, Keep.refl _ _⟩
  · have hgl : g < w.heap.size := (Array.getElem?_eq_some_iff.1 hg).1
    refine (Try.slices_Sort_int g 0 cap zs w (holds_of_blockI hg (by simpa [ints] using ht)) hgl hl).mono fun en w' h => ?_
    obtain ⟨rfl, n, os, rfl⟩ := h
    have hlen : (sortI zs).length = zs.length := List.length_mergeSort _
    refine ⟨ownsRow_sortedI hlen hB hg hn hm (by omega), ?_⟩
    exact (Keep.grown (grownBy_sortedI _)).mono (fun b _ h => h.symm)
/-- Ints that are the same set, without doubles: sorted they are the rising list. -/
theorem sortI_eq {zs ys : List Int} (h1 : zs.Nodup) (h2 : ys.Pairwise (· < ·)) (h : ∀ a, a ∈ zs ↔ a ∈ ys) : sortI zs = ys := by
  have hnd : ys.Nodup := h2.imp (fun hlt he => by omega)
  have hp : zs.Perm ys := (List.perm_ext_iff_of_nodup h1 hnd).2 h
  refine List.Perm.eq_of_pairwise (le := fun a b : Int => decide (a ≤ b) = true) ?_ ?_ ?_ ((List.mergeSort_perm zs _).trans hp)
  · intro a b _ _ h1 h2; simp at h1 h2; omega
  · exact List.pairwise_mergeSort (fun a b c h1 h2 => by simp at h1 h2 ⊢; omega) (fun a b => by simp; omega) zs
  · exact h2.imp (fun hlt => by simp; omega)
end Go.Proofs.Ytneehlkofcdhoaa
