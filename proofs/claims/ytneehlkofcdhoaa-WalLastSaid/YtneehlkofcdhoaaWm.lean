/- A log of groups of pages in plain words: what a group does to the disk. -/
import Derived.Test.YtneehlkofcdhoaaRm
namespace Go.Proofs.Ytneehlkofcdhoaa
open Go
def adds (D : Dsk) (l : List DOp) : Dsk := l.foldl Dsk.add D
theorem adds_nil (D : Dsk) : adds D [] = D := rfl
theorem adds_cons (D : Dsk) (o : DOp) (l : List DOp) : adds D (o :: l) = adds (D.add o) l := rfl
theorem adds_append (D : Dsk) (l m : List DOp) : adds D (l ++ m) = adds (adds D l) m := by simp [adds, List.foldl_append]
theorem adds_ops (D : Dsk) (l : List DOp) : (adds D l).ops = D.ops ++ l := by
  induction l generalizing D with
  | nil => simp [adds]
  | cons o l ih => rw [adds_cons, ih]; simp [Dsk.add]
theorem adds_first (D : Dsk) (l : List DOp) : (adds D l).first = D.first := by
  induction l generalizing D with
  | nil => rfl
  | cons o l ih => rw [adds_cons, ih]; rfl
/-- A number in two bytes. -/
def hi (n : Nat) : UInt8 := UInt8.ofNat (n / 256)
def lo (n : Nat) : UInt8 := UInt8.ofNat n
/-- The head's bytes. -/
def headB (ns : List Nat) : List UInt8 := ([0x44, 0x4e, hi ns.length, lo ns.length] ++ ns.flatMap fun n => [hi n, lo n]) ++ List.replicate (508 - 2 * ns.length) 0
theorem headB_length {ns : List Nat} (h : ns.length ≤ 100) : (headB ns).length = 512 := by
  have : (ns.flatMap fun n => [hi n, lo n]).length = 2 * ns.length := by
    clear h
    induction ns with
    | nil => rfl
    | cons n ns ih => rw [List.flatMap_cons, List.length_append, ih]; simp; omega
  rw [headB, List.length_append, List.length_append, this]; simp; omega
/-- What a group does: the pages' copies, the head, the pages home, the empty head. -/
def copyOps (k : Nat) : List (Nat × List UInt8) → List DOp
  | [] => []
  | p :: ps => .wr (1 + k) p.2 :: copyOps (k + 1) ps
def homeOps (size : Nat) (ps : List (Nat × List UInt8)) : List DOp := ps.map fun p => .wr (size + 1 + p.1) p.2
def groupOps (size : Nat) (ps : List (Nat × List UInt8)) : List DOp := copyOps 0 ps ++ ([.fl, .wr 0 (headB (ps.map (·.1))), .fl] ++ (homeOps size ps ++ [.fl, .wr 0 (headB []), .fl]))
theorem copyOps_length (k : Nat) (ps : List (Nat × List UInt8)) : (copyOps k ps).length = ps.length := by
  induction ps generalizing k with
  | nil => rfl
  | cons p ps ih => simp [copyOps, ih]
theorem groupOps_length (size : Nat) (ps : List (Nat × List UInt8)) : (groupOps size ps).length = 2 * ps.length + 6 := by
  simp [groupOps, copyOps_length, homeOps]; omega
/-- Writes to other sectors. -/
theorem image_copy (s : Nat) : ∀ (ps : List (Nat × List UInt8)) (k : Nat) (D : Dsk), (s < 1 + k ∨ 1 + k + ps.length ≤ s) → (adds D (copyOps k ps)).image[s]? = D.image[s]?
  | [], k, D, _ => rfl
  | p :: ps, k, D, h => by
    rw [copyOps, adds_cons, image_copy s ps (k + 1) _ (by simp at h; omega), Dsk.image_wr, List.getElem?_set_ne (by simp at h; omega)]
theorem image_copied : ∀ (ps : List (Nat × List UInt8)) (k : Nat) (D : Dsk) (i : Nat) (h : i < ps.length), 1 + k + ps.length ≤ D.first.length → (adds D (copyOps k ps)).image[1 + k + i]? = some ps[i].2
  | p :: ps, k, D, 0, _, hl => by
    rw [copyOps, adds_cons, image_copy _ ps (k + 1) _ (by omega), Dsk.image_wr, Nat.add_zero, List.getElem?_set_self (by rw [D.image_length]; simp at hl; omega)]; rfl
  | p :: ps, k, D, i + 1, h, hl => by
    rw [copyOps, adds_cons]
    have := image_copied ps (k + 1) (D.add (.wr (1 + k) p.2)) i (by simpa using h) (by simp [Dsk.add] at hl ⊢; omega)
    rw [show 1 + k + (i + 1) = 1 + (k + 1) + i from by omega, this]; rfl
theorem image_home_other (size s : Nat) : ∀ (ps : List (Nat × List UInt8)) (D : Dsk), (∀ p ∈ ps, size + 1 + p.1 ≠ s) → (adds D (homeOps size ps)).image[s]? = D.image[s]?
  | [], D, _ => rfl
  | p :: ps, D, h => by
    show (adds (D.add (.wr (size + 1 + p.1) p.2)) (homeOps size ps)).image[s]? = _
    rw [image_home_other size s ps _ (fun q hq => h q (by simp [hq])), Dsk.image_wr, List.getElem?_set_ne (h p (by simp))]
theorem image_home (size : Nat) : ∀ (ps : List (Nat × List UInt8)) (D : Dsk), (ps.map (·.1)).Nodup → (∀ p ∈ ps, size + 1 + p.1 < D.first.length) → ∀ p ∈ ps, (adds D (homeOps size ps)).image[size + 1 + p.1]? = some p.2
  | q :: ps, D, hn, hl, p, hp => by
    rw [List.map_cons, List.nodup_cons] at hn
    show (adds (D.add (.wr (size + 1 + q.1) q.2)) (homeOps size ps)).image[size + 1 + p.1]? = _
    by_cases hps : p ∈ ps
    · exact image_home size ps (D.add (.wr (size + 1 + q.1) q.2)) hn.2 (fun r hr => hl r (by simp [hr])) p hps
    · have hpq : p = q := by simpa [hps] using hp
      subst hpq
      rw [image_home_other size _ ps _ (fun r hr he => hn.1 (List.mem_map.2 ⟨r, hr, by omega⟩)), Dsk.image_wr, List.getElem?_set_self (by rw [D.image_length]; exact hl p (by simp))]
/-- The disk behind a group. -/
def grouped (size : Nat) (D : Dsk) (ps : List (Nat × List UInt8)) : Dsk := adds D (groupOps size ps)
theorem grouped_first (size : Nat) (D : Dsk) (ps : List (Nat × List UInt8)) : (grouped size D ps).first = D.first := adds_first _ _
theorem grouped_ops (size : Nat) (D : Dsk) (ps : List (Nat × List UInt8)) : (grouped size D ps).ops.length = D.ops.length + (2 * ps.length + 6) := by
  rw [grouped, adds_ops, List.length_append, groupOps_length]
theorem adds_fl (D : Dsk) (l : List DOp) : (adds D (.fl :: l)).image = (adds (D.add .fl) l).image := rfl
theorem grouped_eq (size : Nat) (D : Dsk) (ps : List (Nat × List UInt8)) : grouped size D ps = (((adds ((((adds D (copyOps 0 ps)).add .fl).add (.wr 0 (headB (ps.map (·.1))))).add .fl) (homeOps size ps)).add .fl).add (.wr 0 (headB []))).add .fl := by
  simp only [grouped, groupOps, adds_append]; rfl
/-- A page that the group wrote. -/
theorem grouped_page {size : Nat} {D : Dsk} {ps : List (Nat × List UInt8)} (hn : (ps.map (·.1)).Nodup) (hl : ∀ p ∈ ps, size + 1 + p.1 < D.first.length) {p : Nat × List UInt8} (hp : p ∈ ps) : (grouped size D ps).image[size + 1 + p.1]? = some p.2 := by
  rw [grouped_eq, Dsk.image_fl, Dsk.image_wr, Dsk.image_fl, List.getElem?_set_ne (by omega)]
  exact image_home size ps _ hn (fun q hq => by have := hl q hq; simpa [Dsk.add, adds_first] using this) p hp
/-- A page of no group. -/
theorem grouped_other {size s : Nat} {D : Dsk} {ps : List (Nat × List UInt8)} (hk : ps.length ≤ size) (hs : size < s) (hno : ∀ p ∈ ps, size + 1 + p.1 ≠ s) : (grouped size D ps).image[s]? = D.image[s]? := by
  rw [grouped_eq, Dsk.image_fl, Dsk.image_wr, Dsk.image_fl, List.getElem?_set_ne (by omega), image_home_other size s ps _ hno, Dsk.image_fl, Dsk.image_wr, List.getElem?_set_ne (by omega), Dsk.image_fl, image_copy s ps 0 D (by omega)]
theorem grouped_head {size : Nat} {D : Dsk} {ps : List (Nat × List UInt8)} (hf : 0 < D.first.length) : (grouped size D ps).image[0]? = some (headB []) := by
  rw [grouped_eq, Dsk.image_fl, Dsk.image_wr, List.getElem?_set_self (by rw [Dsk.image_length]; simpa [Dsk.add, adds_first] using hf)]
end Go.Proofs.Ytneehlkofcdhoaa
