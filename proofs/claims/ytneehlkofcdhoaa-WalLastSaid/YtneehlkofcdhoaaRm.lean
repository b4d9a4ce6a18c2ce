/- The reference's disk: laws in plain words. -/
import Derived.Test.YtneehlkofcdhoaaWn
namespace Go.Proofs.Ytneehlkofcdhoaa
open Go
theorem Dsk.image_fl (D : Dsk) : (D.add .fl).image = D.image := by
  rw [Dsk.image, D.wait_fl, flushed_none, D.safe_fl]
/-- How many operations stand ahead of what waits. -/
def flN (os : List DOp) : Nat := (os.foldl (fun (p : Nat × Nat) o => (p.1 + 1, match o with | .fl => p.1 + 1 | .wr _ _ => p.2)) (0, 0)).2
theorem flN_count (os : List DOp) : (os.foldl (fun (p : Nat × Nat) o => (p.1 + 1, match o with | .fl => p.1 + 1 | .wr _ _ => p.2)) (0, 0)).1 = os.length := by
  have : ∀ (l : List DOp) (p : Nat × Nat), (l.foldl (fun (p : Nat × Nat) o => (p.1 + 1, match o with | .fl => p.1 + 1 | .wr _ _ => p.2)) p).1 = p.1 + l.length := by
    intro l
    induction l with
    | nil => intro p; rfl
    | cons o l ih => intro p; rw [List.foldl_cons, ih]; simp; omega
  rw [this]; simp
theorem flN_fl (os : List DOp) : flN (os ++ [.fl]) = os.length + 1 := by
  rw [flN, List.foldl_append]; simp [flN_count]
theorem flN_wr (os : List DOp) (n : Nat) (b : List UInt8) : flN (os ++ [.wr n b]) = flN os := by
  rw [flN, List.foldl_append]; simp [flN]
theorem snoc_ind {p : List DOp → Prop} (h0 : p []) (h1 : ∀ os o, p os → p (os ++ [o])) (os : List DOp) : p os := by
  rw [← os.reverse_reverse]
  induction os.reverse with
  | nil => exact h0
  | cons o l ih => rw [List.reverse_cons]; exact h1 _ _ ih
theorem flN_le (os : List DOp) : flN os ≤ os.length := by
  refine snoc_ind (p := fun os => flN os ≤ os.length) (Nat.le_refl _) (fun os o ih => ?_) os
  cases o with
  | wr n b => rw [flN_wr]; simp; omega
  | fl => rw [flN_fl]; simp
/-- Behind the last flush there are writes alone. -/
theorem flN_wrs (os : List DOp) : ∀ i (h : i < os.length), flN os ≤ i → ∃ n b, os[i] = .wr n b := by
  refine snoc_ind (p := fun os => ∀ i (h : i < os.length), flN os ≤ i → ∃ n b, os[i] = .wr n b) (fun i h => by simp at h) (fun os o ih i h hi => ?_) os
  cases o with
  | wr n b =>
    rw [flN_wr] at hi
    by_cases hl : i < os.length
    · rw [List.getElem_append_left hl]; exact ih i hl hi
    · have : i = os.length := by simp at h; omega
      subst this
      exact ⟨n, b, by simp⟩
  | fl => rw [flN_fl] at hi; simp at h; omega
def waitsL (os : List DOp) (n : Nat) : List (List UInt8) := os.filterMap fun o => match o with | .wr m b => if m = n then some b else none | .fl => none
theorem Dsk.eta (D : Dsk) : (⟨D.first, D.ops⟩ : Dsk) = D := rfl
theorem wait_waits (f : List (List UInt8)) (os : List DOp) (n : Nat) : (⟨f, os⟩ : Dsk).wait n = waitsL (os.drop (flN os)) n := by
  refine snoc_ind (p := fun os => (⟨f, os⟩ : Dsk).wait n = waitsL (os.drop (flN os)) n) rfl (fun os o ih => ?_) os
  change ((⟨f, os⟩ : Dsk).add o).wait n = _
  cases o with
  | wr m b =>
    rw [Dsk.wait_wr, flN_wr, List.drop_append_of_le_length (flN_le os)]
    simp only [waitsL, List.filterMap_append]
    by_cases h : n = m
    · subst h; simp only [if_true]; rw [ih]; simp [waitsL]
    · rw [if_neg h, ih]; simp [waitsL, Ne.symm h]
  | fl => rw [Dsk.wait_fl, flN_fl, List.drop_eq_nil_of_le (by simp)]; rfl
theorem Dsk.cut_all (D : Dsk) : D.cut D.ops.length = D := by simp [Dsk.cut]
theorem Dsk.cut_zero (D : Dsk) : (D.cut 0).image = D.first := by
  simp [Dsk.cut, Dsk.image, Dsk.safe_new, Dsk.wait_new, flushed_none]
theorem Dsk.cut_succ (D : Dsk) {i : Nat} (h : i < D.ops.length) : D.cut (i + 1) = (D.cut i).add D.ops[i] := by
  simp only [Dsk.cut, Dsk.add]; rw [List.take_succ_eq_append_getElem h]
theorem safe_cut (f : List (List UInt8)) (os : List DOp) : ((⟨f, os⟩ : Dsk).cut (flN os)).image = (⟨f, os⟩ : Dsk).safe := by
  refine snoc_ind (p := fun os => ((⟨f, os⟩ : Dsk).cut (flN os)).image = (⟨f, os⟩ : Dsk).safe) (Dsk.cut_zero _) (fun os o ih => ?_) os
  cases o with
  | wr m b =>
    rw [flN_wr]
    have h1 : (⟨f, os ++ [.wr m b]⟩ : Dsk).cut (flN os) = (⟨f, os⟩ : Dsk).cut (flN os) := by
      simp only [Dsk.cut]; rw [List.take_append_of_le_length (flN_le os)]
    rw [h1, ih]
    exact (Dsk.safe_wr ⟨f, os⟩ m b).symm
  | fl =>
    rw [flN_fl]
    have h1 : (⟨f, os ++ [.fl]⟩ : Dsk).cut (os.length + 1) = (⟨f, os⟩ : Dsk).add .fl := by
      simp only [Dsk.cut, Dsk.add]; rw [List.take_of_length_le (by simp)]
    rw [h1, Dsk.image_fl]
    exact (Dsk.safe_fl ⟨f, os⟩).symm
theorem Dsk.safe_at (D : Dsk) : (D.cut (flN D.ops)).image = D.safe := safe_cut D.first D.ops
theorem Dsk.wait_at (D : Dsk) (n : Nat) : D.wait n = waitsL (D.ops.drop (flN D.ops)) n := wait_waits D.first D.ops n
theorem Dsk.Ok.cut {D : Dsk} (h : D.Ok) (k : Nat) : (D.cut k).Ok :=
  ⟨h.rows, fun n b hm => h.ops n b (List.mem_of_mem_take hm), h.some, h.most⟩
/-- The sectors below i that wait. -/
def Dsk.waitingTo (D : Dsk) (i : Nat) : List Nat := (List.range i).filter fun n => !(D.wait n).isEmpty
theorem Dsk.waitingTo_all (D : Dsk) : D.waitingTo D.first.length = D.waiting := rfl
theorem Dsk.waitingTo_succ (D : Dsk) (i : Nat) : D.waitingTo (i + 1) = if D.wait i = [] then D.waitingTo i else D.waitingTo i ++ [i] := by
  rw [waitingTo, List.range_succ, List.filter_append]
  by_cases h : D.wait i = []
  · simp [h, waitingTo]
  · simp [h, waitingTo]
end Go.Proofs.Ytneehlkofcdhoaa
