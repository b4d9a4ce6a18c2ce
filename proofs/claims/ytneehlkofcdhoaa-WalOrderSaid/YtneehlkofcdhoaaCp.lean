/- What Commit answers, and does, in plain words. -/
import Derived.Test.YtneehlkofcdhoaaPg
namespace Go.Proofs.Ytneehlkofcdhoaa
open Go
def goodP (ps : List Pg) : Prop := (ps.map (·.1)).Nodup ∧ ∀ p ∈ ps, p.2.length = 512
instance (ps : List Pg) : Decidable (goodP ps) := by unfold goodP; infer_instance
/-- Its answer on a disk of n sectors. -/
def ccode (n size : Nat) (ps : List Pg) : Int :=
  if ps = [] then 0 else if min size 100 < ps.length then 6 else if anyOut (n - size - 1) ps then 2 else if goodP ps then 0 else 3
/-- The pages, the least number first. -/
def sortP (ps : List Pg) : List (Nat × List UInt8) := (ps.mergeSort (fun p q => decide (p.1 ≤ q.1))).map fun p => (p.1.toNat, p.2)
/-- The disk behind it. -/
def cdone (size : Nat) (D : Dsk) (ps : List Pg) : Dsk := if ps ≠ [] ∧ ccode D.first.length size ps = 0 then grouped size D (sortP ps) else D
theorem cdone_first (size : Nat) (D : Dsk) (ps : List Pg) : (cdone size D ps).first = D.first := by
  unfold cdone
  split
  · exact grouped_first _ _ _
  · rfl
theorem sortP_length (ps : List Pg) : (sortP ps).length = ps.length := by simp [sortP]
section
variable {ps : List Pg}
theorem sortP_mem (h0 : ∀ p ∈ ps, 0 ≤ p.1) {n : Nat} {b : List UInt8} : (n, b) ∈ sortP ps ↔ ((n : Int), b) ∈ ps := by
  simp only [sortP, List.mem_map, List.mem_mergeSort, Prod.mk.injEq]
  constructor
  · rintro ⟨p, hp, rfl, rfl⟩
    rw [Int.toNat_of_nonneg (h0 p hp)]; exact hp
  · intro h
    exact ⟨_, h, by simp, rfl⟩
theorem sortP_ints (h0 : ∀ p ∈ ps, 0 ≤ p.1) : zs ((sortP ps).map (·.1)) = (ps.mergeSort (fun p q => decide (p.1 ≤ q.1))).map (·.1) := by
  simp only [zs, sortP, List.map_map]
  refine List.map_congr_left fun p hp => ?_
  simp only [Function.comp]
  exact Int.toNat_of_nonneg (h0 p (List.mem_mergeSort.1 hp))
theorem sorted_lt (hn : (ps.map (·.1)).Nodup) : ((ps.mergeSort (fun p q => decide (p.1 ≤ q.1))).map (·.1)).Pairwise (· < ·) := by
  have h1 : (ps.mergeSort (fun p q => decide (p.1 ≤ q.1))).Pairwise (fun p q => decide (p.1 ≤ q.1) = true) :=
    List.pairwise_mergeSort (fun a b c h1 h2 => by simp at h1 h2 ⊢; omega) (fun a b => by simp; omega) ps
  have h2 : ((ps.mergeSort (fun p q => decide (p.1 ≤ q.1))).map (·.1)).Nodup := ((List.mergeSort_perm ps _).map (·.1)).nodup_iff.2 hn
  unfold List.Nodup at h2
  rw [List.pairwise_map] at h2 ⊢
  exact (h1.and h2).imp (fun ⟨h, h'⟩ => by simp at h; omega)
theorem sortP_rising (hn : (ps.map (·.1)).Nodup) (h0 : ∀ p ∈ ps, 0 ≤ p.1) : ((sortP ps).map (·.1)).Pairwise (· < ·) := by
  have h := sorted_lt hn
  rw [← sortP_ints h0, zs, List.pairwise_map] at h
  exact h.imp (fun h => by omega)
theorem sortP_keys (hn : (ps.map (·.1)).Nodup) (h0 : ∀ p ∈ ps, 0 ≤ p.1) : sortI (ps.map (·.1)) = zs ((sortP ps).map (·.1)) := by
  rw [sortP_ints h0]
  exact sortI_eq hn (sorted_lt hn) (fun a => ((List.mergeSort_perm ps _).map (·.1)).symm.mem_iff)
theorem sortP_unique (hn : (ps.map (·.1)).Nodup) (h0 : ∀ p ∈ ps, 0 ≤ p.1) {qs : List (Nat × List UInt8)} (hq : (qs.map (·.1)).Pairwise (· < ·)) (hm : ∀ n b, (n, b) ∈ qs ↔ ((n : Int), b) ∈ ps) : qs = sortP ps := by
  have h1 := sortP_rising hn h0
  rw [List.pairwise_map] at hq h1
  have hnd : ∀ {l : List (Nat × List UInt8)}, l.Pairwise (fun a b => a.1 < b.1) → l.Nodup := fun h => h.imp (fun hlt he => by subst he; omega)
  refine List.Perm.eq_of_pairwise (le := fun a b : Nat × List UInt8 => a.1 < b.1) (fun a b _ _ h1 h2 => by omega) hq h1 ?_
  exact (List.perm_ext_iff_of_nodup (hnd hq) (hnd h1)).2 (fun p => by obtain ⟨n, b⟩ := p; rw [hm, sortP_mem h0])
theorem sortP_bytes (h0 : ∀ p ∈ ps, 0 ≤ p.1) (h : ∀ p ∈ ps, p.2.length = 512) : ∀ p ∈ sortP ps, p.2.length = 512 := by
  rintro ⟨n, b⟩ hp
  exact h _ ((sortP_mem h0).1 hp)
theorem sortP_lt {pages : Nat} (h0 : ∀ p ∈ ps, 0 ≤ p.1) (h : ¬ anyOut pages ps) : ∀ p ∈ sortP ps, p.1 < pages := by
  rintro ⟨n, b⟩ hp
  have h1 := (sortP_mem h0).1 hp
  have h2 : ¬ outOf pages (n : Int) := fun ho => h ⟨_, h1, ho⟩
  simp only [outOf] at h2
  omega
end
theorem anyOut_nonneg {pages : Nat} {ps : List Pg} (h : ¬ anyOut pages ps) : ∀ p ∈ ps, 0 ≤ p.1 := fun p hp => by
  have : ¬ outOf pages p.1 := fun ho => h ⟨p, hp, ho⟩
  simp only [outOf] at this
  omega
theorem copyOps_take : ∀ (ps : List (Nat × List UInt8)) (k i : Nat) (h : i < ps.length), copyOps k (ps.take (i + 1)) = copyOps k (ps.take i) ++ [.wr (1 + k + i) ps[i].2]
  | p :: ps, k, 0, h => by simp [copyOps]
  | p :: ps, k, i + 1, h => by
    simp only [List.take_succ_cons, copyOps, List.getElem_cons_succ, List.cons_append]
    rw [copyOps_take ps (k + 1) i (by simpa using h)]
    rw [show 1 + (k + 1) + i = 1 + k + (i + 1) from by omega]
/-- The entries of the map of the first pages. -/
def ent (ps : List Pg) (xs : List Value) (j : Nat) : MapEntry := ⟨.int .i64 (ps.getD j (0, [])).1, xs.getD (2 * j + 1) undef, j⟩
def ents (ps : List Pg) (xs : List Value) (i : Nat) : Array MapEntry := ((List.range i).map (ent ps xs)).toArray
theorem ents_push (ps : List Pg) (xs : List Value) (i : Nat) : (ents ps xs i).push (ent ps xs i) = ents ps xs (i + 1) := by
  simp [ents, List.range_succ]
theorem ents_keys (ps : List Pg) (xs : List Value) {i : Nat} (h : i ≤ ps.length) : (ents ps xs i).toList.map (·.key) = ints ((ps.take i).map (·.1)) := by
  simp only [ents, ints, List.map_map]
  refine List.ext_getElem (by simp; omega) fun j h1 h2 => ?_
  simp at h1
  simp [ent, List.getElem?_eq_getElem (show j < ps.length by omega)]
theorem ents_keyed (ps : List Pg) (xs : List Value) (i : Nat) : IntKeyed .i64 (ents ps xs i).toList := by
  intro y hy
  simp only [ents, List.mem_map] at hy
  obtain ⟨j, _, rfl⟩ := hy
  exact ⟨_, rfl⟩
theorem ents_ok (ps : List Pg) (xs : List Value) {i : Nat} (h : i ≤ ps.length) (hn : ((ps.take i).map (·.1)).Nodup) : MapOk (ents ps xs i).toList i := by
  refine ⟨?_, ?_, fun e he => ?_⟩
  · have h1 := ents_keys ps xs h
    have h2 : ((ents ps xs i).toList.map (·.key)).Nodup := by
      rw [h1, ints]
      unfold List.Nodup at hn ⊢
      rw [List.pairwise_map]
      exact hn.imp (fun hne he => hne (by simpa using he))
    unfold List.Nodup at h2
    rwa [List.pairwise_map] at h2
  · simp only [ents, List.pairwise_map]
    exact List.pairwise_lt_range.imp (fun h => by simp [ent]; omega)
  · simp only [ents, List.mem_map, List.mem_range] at he
    obtain ⟨j, hj, rfl⟩ := he
    exact hj
/-- A lookup. -/
theorem ents_find (ps : List Pg) (xs : List Value) {i j : Nat} (h : i ≤ ps.length) (hn : ((ps.take i).map (·.1)).Nodup) (hj : j < i) : findInt .i64 (ps[j]'(by omega)).1 (ents ps xs i).toList = some (xs.getD (2 * j + 1) undef) := by
  have hy : ent ps xs j ∈ (ents ps xs i).toList := by simp only [ents, List.mem_map, List.mem_range]; exact ⟨j, hj, rfl⟩
  have := findInt_eq (n := (ps[j]'(by omega)).1) (ents_keyed ps xs i) (ents_ok ps xs h hn).keys hy (by simp [ent, List.getElem?_eq_getElem (show j < ps.length by omega)])
  simpa [ent] using this
theorem ents_none (ps : List Pg) (xs : List Value) {i : Nat} (h : i ≤ ps.length) {n : Int} (hno : n ∉ (ps.take i).map (·.1)) : findInt .i64 n (ents ps xs i).toList = none := by
  refine findInt_none (ents_keyed ps xs i) (fun y hy he => hno ?_)
  have h1 := ents_keys ps xs h
  have h2 : y.key ∈ ints ((ps.take i).map (·.1)) := by rw [← h1]; exact List.mem_map.2 ⟨y, hy, rfl⟩
  rw [he, ints, List.mem_map] at h2
  obtain ⟨a, ha, hae⟩ := h2
  cases hae; exact ha
end Go.Proofs.Ytneehlkofcdhoaa
