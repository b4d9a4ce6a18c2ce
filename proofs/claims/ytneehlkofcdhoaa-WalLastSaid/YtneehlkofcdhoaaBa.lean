/- Basics: ghosts, structs of four cells, laws of crashes. -/
import Derived.Test.YtneehlkofcdhoaaCr
namespace Go.Proofs.Ytneehlkofcdhoaa
open Go
set_option linter.unusedSimpArgs false
open Go.RowKit (intOf)
def G00 : Gh := ⟨fun _ => 0, fun _ => 0⟩
theorem Ext.toGrow {κ : Nat → Prop} {G' : Gh} {w w' : World} (h : Ext κ G00 w G' w') (hk : ¬ κ 0) : Grow w w' := ⟨h.os, h.tape, h.output, h.size, fun b hb _ => h.blk b hb hk⟩
theorem Ext.growG {G G' : Gh} {w w' : World} (h : Ext0 G w G' w') : Grow w w' := ⟨h.os, h.tape, h.output, h.size, fun b hb _ => h.blk b hb id⟩
abbrev Gh.new (G : Gh) (B : Nat) : Gh := G.upto B (fun _ => 0) (fun _ => 0)
theorem Ext.newB {K : Nat → Prop} {G : Gh} {w w' : World} (h : Grow w w') : Ext K G w (G.new w.heap.size) w' := .upto h _ _
theorem Gh.new_own {G : Gh} {B b : Nat} (h : B ≤ b) : (G.new B).own b = 0 := by simp [Gh.upto, Nat.not_lt.2 h]
theorem loadN4 {w : World} {p o : Nat} {a b c d : Value} (h0 : w.cell? ⟨p, o, none⟩ = some a) (h1 : w.cell? ⟨p, o + 1, none⟩ = some b) (h2 : w.cell? ⟨p, o + 2, none⟩ = some c) (h3 : w.cell? ⟨p, o + 3, none⟩ = some d) : loadN w ⟨p, o, none⟩ 0 4 = some [a, b, c, d] := by
  simp [loadN, add_lit, h0, h1, h2, h3]
theorem loadN4b {w : World} {p : Nat} {a b c d : Value} {t : TypeId} {f : Nat × Nat} (h : w.heap[p]? = some (.cells #[a, b, c, d] t f)) : loadN w ⟨p, 0, none⟩ 0 4 = some [a, b, c, d] :=
  loadN4 (by rw [cell_block h]; rfl) (by rw [cell_block h]; rfl) (by rw [cell_block h]; rfl) (by rw [cell_block h]; rfl)
theorem storeN_one {p i : Nat} {t : TypeId} {w : World} {cs : Array Value} {v : Value} (l : List Value) (h : w.heap[p]? = some (.cells cs t (0, 0))) (hi : i < cs.size) (hv : isCell v = true) :
    ∃ w', storeN w ⟨p, 0, none⟩ i (v :: l) = storeN w' ⟨p, 0, none⟩ (i + 1) l ∧ w'.heap[p]? = some (.cells (cs.setIfInBounds i v) t (0, 0)) ∧ Keep (fun b => b = p) w w' := by
  obtain ⟨w1, hst, hp1, hk1⟩ := cell_store (i := i) h hi hv
  refine ⟨w1, ?_, hp1, hk1⟩
  simp only [stF] at hst
  split at hst
  · rename_i hcond
    have hw : w.setCell ⟨p, i, none⟩ v = w1 := by simpa using hst
    simp only [storeN, add_lit, Nat.zero_add, hcond, if_true, hw]
  · cases hst
theorem stn4 {p : Nat} {t : TypeId} {w : World} {a b c d x y z u : Value} (h : w.heap[p]? = some (.cells #[a, b, c, d] t (0, 0))) (hx : isCell x = true) (hy : isCell y = true) (hz : isCell z = true) (hu : isCell u = true) :
    ∃ w', stnF w 4 (.pointer (some ⟨p, 0, none⟩)) (.agg #[x, y, z, u]) = some (undef, w') ∧ w'.heap[p]? = some (.cells #[x, y, z, u] t (0, 0)) ∧ Keep (fun b => b = p) w w' := by
  obtain ⟨w1, e1, h1, k1⟩ := storeN_one (i := 0) [y, z, u] h (by simp) hx
  obtain ⟨w2, e2, h2, k2⟩ := storeN_one (i := 1) [z, u] h1 (by simp) hy
  obtain ⟨w3, e3, h3, k3⟩ := storeN_one (i := 2) [u] h2 (by simp) hz
  obtain ⟨w4, e4, h4, k4⟩ := storeN_one (i := 3) [] h3 (by simp) hu
  refine ⟨w4, ?_, by simpa using h4, ((k1.trans k2).trans k3).trans k4⟩
  have he : storeN w ⟨p, 0, none⟩ 0 [x, y, z, u] = some w4 := by rw [e1, e2, e3, e4]; rfl
  simp [stnF, Value.cells, he]
theorem fillF_3of4 {a b c d x y z : Value} (hx : isCell x = true) (hy : isCell y = true) (hz : isCell z = true) : fillF #[a, b, c, d] [(1, 1, x), (2, 1, y), (3, 1, z)] = some #[a, x, y, z] := by
  rw [fillF_cell hx (by simp), fillF_cell hy (by simp), fillF_cell hz (by simp), fillF_nil]; simp
theorem FreshR.keep {S : Nat → Prop} {B : Nat} {tr t : TypeId} {w w' : World} {v : Value} {ls : List (List UInt8)} (h : FreshR B tr t w v ls) (hk : Keep S w w') (hs : ∀ b, B ≤ b → ¬ S b) : FreshR B tr t w' v ls := by
  obtain ⟨vs, h1, h2⟩ := h
  exact ⟨vs, own_keep h1 hk (fun b hb => hs b (World.ownsRow.lt h1 b hb).1), h2.keep hk (fun b hS u n xs hu hub => absurd hS (hs b (World.ownsRow.lt hu b hub).1))⟩
theorem Dsk.image_wr (D : Dsk) (n : Nat) (b : List UInt8) : (D.add (.wr n b)).image = D.image.set n b := by
  refine List.ext_getElem (by simp [Dsk.image_length, Dsk.add]) fun i h1 h2 => ?_
  rw [List.getElem_set]
  have hs : (D.add (.wr n b)).safe = D.safe := D.safe_wr n b
  rw [Dsk.image_length] at h1
  have hi : i < D.safe.length := by rw [D.safe_length]; exact h1
  rw [Dsk.image_get _ i _ (by rw [hs]; exact hi)]
  have hw := D.wait_wr n b
  simp only [hs, hw]
  by_cases hin : n = i
  · subst hin; simp [lastOr]
  · rw [if_neg (fun h => hin h.symm), if_neg hin]
    exact (D.image_get i _ hi).symm
theorem crashed_other (q : Nat → List (List UInt8)) (i : Nat) : ∀ (ns ks : List Nat) (s : List (List UInt8)), (∀ j (h : j < ns.length) (h' : j < ks.length), ns[j] = i → ks[j] = 0) → (crashed s q ns ks)[i]? = s[i]?
  | [], _, s, _ => by simp [crashed]
  | a :: ns, [], s, _ => by simp [crashed]
  | a :: ns, b :: ks, s, h => by
    rw [crashed, crashed_other q i ns ks _ (fun j h1 h2 he => h (j + 1) (Nat.succ_lt_succ h1) (Nat.succ_lt_succ h2) he)]
    have h0 : a = i → b = 0 := h 0 (by simp) (by simp)
    split
    · rfl
    · rename_i hb
      rw [List.getElem?_set_ne (fun he => hb (h0 he))]
theorem Dsk.crash_image (D : Dsk) (ks : List Nat) : (D.crash ks).image = crashed D.safe D.wait D.waiting ks := by
  simp [Dsk.image, Dsk.crash, Dsk.safe_new, Dsk.wait_new, flushed_none]
theorem Dsk.crash_length (D : Dsk) (ks : List Nat) : (D.crash ks).image.length = D.first.length := by
  rw [D.crash_image, crashed_length, D.safe_length]
theorem Dsk.writes_length (D : Dsk) : D.writes.length = D.waiting.length := by simp [Dsk.writes]
theorem Dsk.writes_get (D : Dsk) {i : Nat} (h : i < D.writes.length) (h' : i < D.waiting.length) : D.writes[i] = (D.wait D.waiting[i]).length := by simp [Dsk.writes]
theorem tmod_nat (a b : Nat) : (a : Int).tmod (b : Int) = ((a % b : Nat) : Int) := rfl
theorem ints_set (l : List Int) (i : Nat) (v : Int) : (ints l).set i (.int .i64 v) = ints (l.set i v) := by simp [ints, List.map_set]
theorem ints_replicate (n : Nat) (v : Int) : List.replicate n (Value.int .i64 v) = ints (List.replicate n v) := by simp [ints]
theorem crashed_at (q : Nat → List (List UInt8)) : ∀ (ns ks : List Nat) (s : List (List UInt8)) (j : Nat) (h : j < ns.length) (h' : j < ks.length), ns.Nodup → ns[j] < s.length →
    (crashed s q ns ks)[ns[j]]? = if ks[j] = 0 then s[ns[j]]? else some ((q ns[j])[ks[j] - 1]?.getD [])
  | a :: ns, b :: ks, s, 0, _, _, hn, hl => by
    have ha : a ∉ ns := (List.nodup_cons.1 hn).1
    rw [crashed]
    simp only [List.getElem_cons_zero] at hl ⊢
    rw [crashed_other q a ns ks _ (fun j h1 _ he => absurd (he ▸ List.getElem_mem h1) ha)]
    split
    · rfl
    · rw [List.getElem?_set_self hl]
  | a :: ns, b :: ks, s, j + 1, h, h', hn, hl => by
    have ha : a ∉ ns := (List.nodup_cons.1 hn).1
    have hj : j < ns.length := by simpa using h
    have hj' : j < ks.length := by simpa using h'
    rw [crashed]
    simp only [List.getElem_cons_succ] at hl ⊢
    have hne : a ≠ ns[j] := fun he => ha (he ▸ List.getElem_mem hj)
    rw [crashed_at q ns ks _ j hj hj' (List.nodup_cons.1 hn).2 (by split <;> simpa using hl)]
    split
    · split
      · rfl
      · rw [List.getElem?_set_ne hne]
    · rfl
theorem nodup_lt {l : List Nat} (h : l.Pairwise (· < ·)) : l.Nodup := h.imp fun h => by omega
theorem Dsk.crash_none (D : Dsk) : (D.crash []).image = D.safe := by
  rw [D.crash_image]; cases D.waiting <;> rfl
theorem Dsk.waiting_nodup (D : Dsk) : D.waiting.Nodup := nodup_lt D.waiting_rising
theorem Dsk.crash_all {D : Dsk} (hok : D.Ok) : (D.crash D.writes).image = D.image := by
  rw [D.crash_image]
  refine List.ext_getElem? fun i => ?_
  by_cases hi : i < D.safe.length
  · have hil : i < D.image.length := by rw [D.image_length, ← D.safe_length]; exact hi
    by_cases hw : D.wait i = []
    · rw [crashed_other, List.getElem?_eq_getElem hil, D.image_get i hil hi, hw, List.getElem?_eq_getElem hi]
      · rfl
      · intro j h1 h2 he
        rw [D.writes_get h2 h1, he, hw]; rfl
    · obtain ⟨j, hj, he⟩ := List.mem_iff_getElem.1 ((Dsk.mem_waiting hok).2 hw)
      have hjw : j < D.writes.length := by rw [D.writes_length]; exact hj
      have h := crashed_at D.wait D.waiting D.writes D.safe j hj hjw D.waiting_nodup (by rw [he]; exact hi)
      have hpos : 0 < (D.wait i).length := List.length_pos_iff.2 hw
      rw [he, D.writes_get hjw hj, he, if_neg (by omega)] at h
      rw [h, List.getElem?_eq_getElem hil, D.image_get i hil hi, lastOr, List.getLast?_eq_some_getLast hw, List.getElem?_eq_getElem (by omega), List.getLast_eq_getElem hw]; rfl
  · rw [List.getElem?_eq_none (by rw [crashed_length]; omega), List.getElem?_eq_none (by rw [D.image_length, ← D.safe_length]; omega)]
end Go.Proofs.Ytneehlkofcdhoaa
