/- A log in memory; its head is written. -/
import Derived.Test.YtneehlkofcdhoaaWm
namespace Go.Proofs.Ytneehlkofcdhoaa
open Go
set_option linter.unusedSimpArgs false
open Go.RowKit (intOf)
/-- The log at block q (nobody writes it any more), over a disk of owner κ. -/
def LogAt (G : Gh) (κ : Nat) (w : World) (q : Nat) (size came : Nat) (D : Dsk) : Prop :=
  κ ≠ 0 ∧ 1 ≤ size ∧ size + 2 ≤ D.first.length ∧ G.own q = 0 ∧ ∃ p, w.heap[q]? = some (.cells #[.pointer (some ⟨p, 0, none⟩), .int .i64 size, .int .i64 came] 83 (0, 0)) ∧ DiskAt G κ w p D
theorem LogAt.ext {K : Nat → Prop} {G G' : Gh} {κ : Nat} {w w' : World} {q size came : Nat} {D : Dsk} (h : LogAt G κ w q size came D) (hx : Ext K G w G' w') (hk : ¬ K κ) (h0 : ¬ K 0) : LogAt G' κ w' q size came D := by
  obtain ⟨h1, h2, h3, h4, p, h5, h6⟩ := h
  exact ⟨h1, h2, h3, by rw [hx.own q (hx.lt h5)]; exact h4, p, hx.heap h5 (by rw [h4]; exact h0), h6.ext hx hk⟩
theorem LogAt.grow {G : Gh} {κ : Nat} {w w' : World} {q size came : Nat} {D : Dsk} (h : LogAt G κ w q size came D) (hg : Grow w w') : LogAt G κ w' q size came D := h.ext (K := fun _ => False) (.grow hg) id id
/-- What stands behind an operation on the log's disk. -/
theorem LogAt.put {G G' : Gh} {κ : Nat} {w w' : World} {q size came p : Nat} {D E : Dsk} (h : LogAt G κ w q size came D) (hp : w.cell? ⟨q, 0, none⟩ = some (.pointer (some ⟨p, 0, none⟩))) (hx : Ext (fun c => c = κ) G w G' w') (hE : E.first = D.first) (hd : DiskAt G' κ w' p E) : LogAt G' κ w' q size came E := by
  obtain ⟨h1, h2, h3, h4, p', h5, h6⟩ := h
  have : w.cell? ⟨q, 0, none⟩ = some (.pointer (some ⟨p', 0, none⟩)) := by rw [cell_block h5]; rfl
  rw [this] at hp; cases hp
  exact ⟨h1, h2, by rw [hE]; exact h3, by rw [hx.own q (hx.lt h5)]; exact h4, p, hx.heap h5 (by rw [h4]; exact fun h => h1 h.symm), hd⟩
theorem bin_shr8 {n : Int} : binV .shr (.int .i64 n) (.int .u64 8) = some (.int .i64 (n / 256)) := by
  simp only [binV]
  rw [if_neg (by omega)]
  have h8 : (2 : Int) ^ (min (Int.toNat 8) IntKind.i64.bits) = 256 := by decide
  rw [h8, Int.fdiv_eq_ediv_of_nonneg _ (by omega)]
theorem Has.new2 {w : World} {x y : Value} {t : TypeId} : Has 1 (w.alloc (.cells #[x, y] t)) (.slice (some ⟨w.heap.size, 0, none⟩) 2 2) [x, y] := by
  refine .inl ⟨w.heap.size, 0, 2, 2, rfl, rfl, Nat.le_refl _, fun j u hj => ?_⟩
  rw [cell_block (heap_alloc_new w _)]
  match j, hj with
  | 0, hj => simpa using hj
  | 1, hj => simpa using hj
section rules
variable {P : Program} {k : Kont} {e : Env} {w : World} {l : List GOp} {d : Option Nat}
/-- append where there is room, to the cell. -/
theorem app_exact {x y : Operand} {t el ty : TypeId} {bytes g n cap : Nat} {z u : Value} {cur : Array Value} {news : List Value} (he : ElemIs P t el 1 bytes z) (hx : ev e x = .slice (some ⟨g, 0, none⟩) n cap) (hy : ev e y = u)
    (hb : w.heap[g]? = some (.cells cur el (0, 0))) (hcap : cap ≤ cur.size) (hr : n + news.length ≤ cap) (hsrc : Has 1 w u news) (hne : news ≠ []) (hq : ∀ q ∈ news, isCell q = true)
    (h : ∀ w', Keep (fun b => b = g) w w' → w'.heap[g]? = some (.cells (cur.toList.take n ++ news ++ cur.toList.drop (n + news.length)).toArray el (0, 0)) → R (symOps P l k (updO e d (.slice (some ⟨g, 0, none⟩) (n + news.length) cap)) w')) :
    R (symOps P (⟨d, .hard (H (.call { callee := .builtin .append, args := #[x, y], argTypes := #[t, t] }) ty), none⟩ :: l) k e w) := by
  obtain ⟨i, hi, hz, hsz, hby⟩ := he.hi
  rcases hsrc with ⟨b, o, m, c, rfl, s1, s2, s3⟩ | ⟨s1, _⟩
  · have hm : m = news.length := by simpa using s1.symm
    subst hm
    have hrun := run_append_room (P := P) w t ty el i he.ht hi g n cap cur hb ⟨b, o, none⟩ news.length c news (by simp [hsz]) (fun j u hj => by rw [add_lit]; exact s3 j u hj) (fun u hu => isCell_one (hq u hu)) (by omega) (by simp [hsz]; omega)
    have hrr := setRow_heap w g cur ((List.take (n * i.size) cur.toList ++ news ++ List.drop (n * i.size + news.length) cur.toList).toArray) el (0, 0) hb
    have hkk : Keep (fun b => b = g) w (w.setRow g ((List.take (n * i.size) cur.toList ++ news ++ List.drop (n * i.size + news.length) cur.toList).toArray)) := ⟨rfl, rfl, rfl, by simp, fun k _ hk => setRow_other w g k _ hk⟩
    generalize w.setRow g ((List.take (n * i.size) cur.toList ++ news ++ List.drop (n * i.size + news.length) cur.toList).toArray) = w' at hrun hrr hkk
    refine hard_rule (run_builtin (vs := [.slice (some ⟨g, 0, none⟩) n cap, .slice (some ⟨b, o, none⟩) news.length c]) (by simp [hx, hy]) (fun cs => by simp only [builtin, Sem.run_bind, hrun, Result.andThen_ok]; rfl)) (h _ hkk ?_)
    simpa [hsz] using hrr
  · exact absurd s1 hne
end rules
end Go.Proofs.Ytneehlkofcdhoaa
