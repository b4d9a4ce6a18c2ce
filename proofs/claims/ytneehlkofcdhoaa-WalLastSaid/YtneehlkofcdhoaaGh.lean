/- More of ghosts; append where there is no room, and where there is. -/
import Derived.Test.YtneehlkofcdhoaaMaps
namespace Go.Proofs.Ytneehlkofcdhoaa
open Go
set_option linter.unusedSimpArgs false
def Gh.at (G : Gh) (g o f : Nat) : Gh := ⟨fun b => if b = g then o else G.own b, fun b => if b = g then f else G.fix b⟩
theorem Gh.at_own {G : Gh} {g o f : Nat} : (G.at g o f).own g = o := by simp [Gh.at]
theorem Gh.at_fix {G : Gh} {g o f : Nat} : (G.at g o f).fix g = f := by simp [Gh.at]
theorem Gh.at_own' {G : Gh} {g o f b : Nat} (h : b ≠ g) : (G.at g o f).own b = G.own b := by simp [Gh.at, h]
theorem Gh.at_fix' {G : Gh} {g o f b : Nat} (h : b ≠ g) : (G.at g o f).fix b = G.fix b := by simp [Gh.at, h]
section
variable {κ : Nat} {K : Nat → Prop} {G : Gh} {w w' : World}
theorem Ext.upd {g f : Nat} (hk : Keep (fun b => b = g) w w') (ho : g < w.heap.size → G.own g = κ ∧ G.fix g ≤ f) (hpre : g < w.heap.size → ∀ i v, i < G.fix g → w.cell? ⟨g, i, none⟩ = some v → w'.cell? ⟨g, i, none⟩ = some v) :
    Ext (fun c => c = κ) G w (G.at g κ f) w' := by
  have hne : ∀ b, b < w.heap.size → ¬ G.own b = κ → b ≠ g := fun b hb hn he => hn (he ▸ (ho (he ▸ hb)).1)
  refine ⟨hk.os, hk.tape, hk.output, hk.size, fun b hb => ?_, fun b hb => ?_, fun b hb hn => Gh.at_fix' (hne b hb hn), fun b hb hn => hk.blk b hb (hne b hb hn), fun b i v hb hi hc => ?_⟩
  · by_cases h : b = g
    · subst h; rw [Gh.at_own, (ho hb).1]
    · exact Gh.at_own' h
  · by_cases h : b = g
    · subst h; rw [Gh.at_fix]; exact (ho hb).2
    · exact Nat.le_of_eq (Gh.at_fix' h).symm
  · by_cases h : b = g
    · subst h; exact hpre hb i v hi hc
    · exact hk.cell hc h
theorem Ext.one {g : Nat} (hk : Keep (fun b => b = g) w w') (ho : g < w.heap.size → G.own g = κ) (hpre : g < w.heap.size → ∀ i v, i < G.fix g → w.cell? ⟨g, i, none⟩ = some v → w'.cell? ⟨g, i, none⟩ = some v) :
    Ext (fun c => c = κ) G w G w' := by
  refine ⟨hk.os, hk.tape, hk.output, hk.size, fun b hb => rfl, fun b hb => Nat.le_refl _, fun b hb hn => rfl, fun b hb hn => hk.blk b hb (fun he => hn (he ▸ ho (he ▸ hb))), fun b i v hb hi hc => ?_⟩
  by_cases h : b = g
  · subst h; exact hpre hb i v hi hc
  · exact hk.cell hc h
/-- A map's block: it has no cells. -/
theorem Ext.onMap {m clk : Nat} {es : Array MapEntry} (hm : w.heap[m]? = some (.map es clk)) (hk : Keep (fun b => b = m) w w') (ho : G.own m = κ) : Ext (fun c => c = κ) G w G w' :=
  .one hk (fun _ => ho) (fun _ i v _ hc => by simp [World.cell?, hm] at hc)
/-- A block of which nothing is fixed. -/
theorem Ext.on0 {g : Nat} (hk : Keep (fun b => b = g) w w') (ho : G.own g = κ) (hf : G.fix g = 0) : Ext (fun c => c = κ) G w G w' :=
  .one hk (fun _ => ho) (fun _ i v hi _ => by omega)
theorem Ext.fresh {g o f : Nat} (h : Grow w w') (hg : w.heap.size ≤ g) : Ext K G w (G.at g o f) w' := .ofGrow h (fun b hb => Gh.at_own' (by omega)) (fun b hb => Gh.at_fix' (by omega))
theorem WaitV.keep {v : Value} {ls : List (List UInt8)} {G' : Gh} (h : WaitV G κ w v ls) (hx : Ext K G w G' w') (hs : ∀ b, spare v = some b → w'.heap[b]? = w.heap[b]? ∧ G'.fix b = G.fix b) : WaitV G' κ w' v ls := by
  obtain ⟨vs, b, c, rfl, h1, h2, h3, h4⟩ := h
  refine ⟨vs, b, c, rfl, h1.ext hx, h2.ext hx, h3, fun hlt => ?_⟩
  obtain ⟨h5, h6, h7⟩ := h4 hlt
  have hb : b < w.heap.size := (World.ownsRow.lt h7 b rfl).2
  obtain ⟨h8, h9⟩ := hs b (by simp [spare, hlt])
  refine ⟨by rw [hx.own b hb]; exact h5, by rw [h9]; exact h6, ?_⟩
  obtain ⟨h10, ⟨h, _⟩ | ⟨g, cap, cur, hv, h11, h12, h13⟩⟩ := h7
  · cases h
  · refine ⟨h10, .inr ⟨g, cap, cur, hv, h11, ?_, h13⟩⟩
    cases hv
    rw [h8]; exact h12
theorem WaitV.spare {v : Value} {ls : List (List UInt8)} (h : WaitV G κ w v ls) {b : Nat} (hb : spare v = some b) : b < w.heap.size ∧ G.own b = κ ∧ G.fix b = ls.length ∧ 0 < ls.length ∧ ∃ c, w.heap[b]? = some (.cells c 28 (0, 0)) := by
  obtain ⟨vs, b', c, rfl, h1, h2, h3, h4⟩ := h
  simp only [Go.Proofs.Ytneehlkofcdhoaa.spare] at hb
  split at hb
  · rename_i hlt
    cases hb
    obtain ⟨h5, h6, h7⟩ := h4 hlt
    refine ⟨(World.ownsRow.lt h7 b rfl).2, h5, h6, List.length_pos_iff.2 h3, ?_⟩
    obtain ⟨_, ⟨h, _⟩ | ⟨g, cap, cur, hv, _, h12, _⟩⟩ := h7
    · cases h
    · cases hv; exact ⟨cur, h12⟩
  · cases hb
theorem WaitV.has {v : Value} {ls : List (List UInt8)} (h : WaitV G κ w v ls) : ∃ vs, HasF G w v vs ∧ RowsF G w vs ls := by
  obtain ⟨vs, b, c, rfl, h1, h2, _⟩ := h; exact ⟨vs, h1, h2⟩
end

section rules
variable {P : Program} {k : Kont} {e : Env} {w : World} {l : List GOp} {d : Option Nat}
/-- append of one, where there is no room. -/
theorem app_full {x y : Operand} {t el ty : TypeId} {bytes : Nat} {z v u q : Value} {xs : List Value} (he : ElemIs P t el 1 bytes z) (hx : ev e x = v) (hy : ev e y = u) (hv : Has 1 w v xs) (hfull : ∀ a n c, v = .slice (some a) n c → n = c)
    (hsrc : Has 1 w u [q]) (hq : isCell q = true) (hbytes : (xs.length + 1) * bytes ≤ 140737488355328) (h63 : xs.length + 1 ≤ 140737488355328)
    (h : ∀ c w', Grow w w' → w'.ownsRow w.heap.size el 1 (.slice (some ⟨w.heap.size, 0, none⟩) (xs.length + 1) c) (xs.length + 1) (xs ++ [q]) → R (symOps P l k (updO e d (.slice (some ⟨w.heap.size, 0, none⟩) (xs.length + 1) c)) w')) :
    R (symOps P (⟨d, .hard (H (.call { callee := .builtin .append, args := #[x, y], argTypes := #[t, t] }) ty), none⟩ :: l) k e w) := by
  obtain ⟨i, hi, hz, hsz, hby⟩ := he.hi
  have hs : Src P i.size t u 1 [q] w := by
    have := hsrc.src (P := P) he.ht (by omega) (by simpa using hq)
    rw [hsz]; simpa using this
  have fin : ∀ old, old < xs.length + 1 → (w.drew.alloc (.cells ((xs ++ [q]).toArray ++ Builtin.zeroCells z.cells (grownCap w (xs.length + 1) old el - (xs.length + 1))) el)).ownsRow w.heap.size el 1 (.slice (some ⟨w.heap.size, 0, none⟩) (xs.length + 1) (grownCap w (xs.length + 1) old el)) (xs.length + 1) (xs ++ [q]) := by
    intro old ho
    have hge := grownCap_ge w (xs.length + 1) old el
    have hcm : grownCap w (xs.length + 1) old el ≤ maxLen := grownCap_le_maxLen w (xs.length + 1) old el (by unfold maxLen; omega)
    refine ⟨by simp, .inr ⟨w.heap.size, _, _, rfl, Nat.le_refl _, heap_alloc_new w.drew _, hge, hcm, ?_, ?_⟩⟩
    · simp only [Array.size_append, List.size_toArray, size_zeroCells, he.hz, List.length_append, List.length_singleton]; omega
    · rw [Nat.mul_one, Array.toList_append]
      exact List.take_left' (by simp)
  rcases hv with ⟨b, o, n, c, rfl, h1, h2, h3⟩ | ⟨rfl, rfl⟩
  · have hnc := hfull _ _ _ rfl
    subst hnc
    rw [Nat.mul_one] at h1
    rw [h1] at fin h hbytes h63
    have hold : (Builtin.firstCells i.size n (.slice (some ⟨b, o, none⟩) n n)).run P w.drew = .ok xs.toArray w.drew :=
      run_firstCells_some (P := P) w.drew i.size n ⟨b, o, none⟩ n n xs (by rw [hsz]; omega) (fun j u hj => by rw [add_lit]; exact h3 j u hj)
    have hr := run_append_grow_src (P := P) w t t ty el i z he.ht hi hz (some ⟨b, o, none⟩) n n xs hold u 1 [q] hs (by omega) (by omega) (growslice_fits (by omega) (by rw [hby]; exact hbytes))
    exact hard_rule (run_builtin (vs := [.slice (some ⟨b, o, none⟩) n n, u]) (by simp [hx, hy]) (fun cs => by simp [builtin, hr])) (h _ _ ((Keep.refl _ _).drew.alloc _) (fin n (by omega)))
  · have hold : (Builtin.firstCells i.size 0 (.slice none 0 0)).run P w.drew = .ok #[] w.drew := by simp [Builtin.firstCells]
    have hr := run_append_grow_src (P := P) w t t ty el i z he.ht hi hz none 0 0 [] hold u 1 [q] hs (by omega) (by omega) (growslice_fits (by omega) (by rw [hby]; simpa using hbytes))
    exact hard_rule (run_builtin (vs := [.slice none 0 0, u]) (by simp [hx, hy]) (fun cs => by simp [builtin, hr])) (h _ _ ((Keep.refl _ _).drew.alloc _) (fin 0 (by omega)))
/-- append of one, where there is room. -/
theorem app_room {x y : Operand} {t el ty : TypeId} {bytes g cap : Nat} {z u q : Value} {xs : List Value} {B : Nat} (he : ElemIs P t el 1 bytes z) (hx : ev e x = .slice (some ⟨g, 0, none⟩) xs.length cap) (hy : ev e y = u)
    (hv : w.ownsRow B el 1 (.slice (some ⟨g, 0, none⟩) xs.length cap) xs.length xs) (hr : xs.length < cap) (hsrc : Has 1 w u [q]) (hq : isCell q = true)
    (h : ∀ w', Keep (fun b => b = g) w w' → w'.ownsRow B el 1 (.slice (some ⟨g, 0, none⟩) (xs.length + 1) cap) (xs.length + 1) (xs ++ [q]) → R (symOps P l k (updO e d (.slice (some ⟨g, 0, none⟩) (xs.length + 1) cap)) w')) :
    R (symOps P (⟨d, .hard (H (.call { callee := .builtin .append, args := #[x, y], argTypes := #[t, t] }) ty), none⟩ :: l) k e w) := by
  obtain ⟨i, hi, hz, hsz, hby⟩ := he.hi
  obtain ⟨h0, ⟨h, _⟩ | ⟨g', cap', cur, hvv, h2, h3, h4, h5, h6, h7⟩⟩ := hv
  · cases h
  cases hvv
  rcases hsrc with ⟨b, o, n, c, rfl, s1, s2, s3⟩ | ⟨s1, _⟩
  · have hn : n = 1 := by simpa using s1.symm
    subst hn
    have hrun := run_append_room (P := P) w t ty el i he.ht hi g xs.length cap cur h3 ⟨b, o, none⟩ 1 c [q] (by simp [hsz]) (fun j u hj => by rw [add_lit]; exact s3 j u hj) (fun u hu => isCell_one (by simp at hu; subst hu; exact hq)) (by omega) (by simp [hsz]; omega)
    have hrr := setRow_heap w g cur ((List.take (xs.length * i.size) cur.toList ++ [q] ++ List.drop (xs.length * i.size + [q].length) cur.toList).toArray) el (0, 0) h3
    have hkk : Keep (fun b => b = g) w (w.setRow g ((List.take (xs.length * i.size) cur.toList ++ [q] ++ List.drop (xs.length * i.size + [q].length) cur.toList).toArray)) := ⟨rfl, rfl, rfl, by simp, fun k _ hk => setRow_other w g k _ hk⟩
    generalize w.setRow g ((List.take (xs.length * i.size) cur.toList ++ [q] ++ List.drop (xs.length * i.size + [q].length) cur.toList).toArray) = w' at hrun hrr hkk
    refine hard_rule (run_builtin (vs := [.slice (some ⟨g, 0, none⟩) xs.length cap, .slice (some ⟨b, o, none⟩) 1 c]) (by simp [hx, hy]) (fun cs => by simp only [builtin, Sem.run_bind, hrun, Result.andThen_ok]; rfl)) (h _ hkk ?_)
    refine ⟨by simp, .inr ⟨g, cap, _, rfl, h2, hrr, by omega, h5, ?_, ?_⟩⟩
    · simp [hsz]; omega
    · have h7' : cur.toList.take xs.length = xs := by simpa using h7
      simp only [hsz, Nat.mul_one, h7', ← List.append_assoc]
      exact List.take_left' (by simp)
  · cases s1
end rules
end Go.Proofs.Ytneehlkofcdhoaa
