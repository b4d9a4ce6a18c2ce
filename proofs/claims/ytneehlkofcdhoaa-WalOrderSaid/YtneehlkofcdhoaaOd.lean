/- Arguments opened: rows of groups of pages. -/
import Derived.Test.YtneehlkofcdhoaaDl
import Derived.Test.YtneehlkofcdhoaaOa
namespace Go.Proofs.Ytneehlkofcdhoaa
open Go
set_option linter.unusedSimpArgs false
open Go.RowKit Go.ChangeShapes Go.WideShapes Go.Deep Go.Joins
section
variable {H : Type} {enc : TypeId × Value → H} {w : World} {base : Nat} {spare : Nat → Bool} {held : Bool}
theorem spot_none {a : Addr} {v : Value} (h : w.cell? a = some v) : a.spot = none := by
  obtain ⟨b, o, s⟩ := a
  cases s with
  | none => rfl
  | some s =>
    simp only [World.cell?] at h
    split at h <;> simp at h
theorem open_intsX {c : Value} {fuel : Nat} {x : DataW H × List MemPlace} (h : DataW.trod enc Try.prog w base (fun _ => true) held fuel 30 [c] = some x) : ∃ l : List Int, HasX w c l := by
  rcases open_ints Try.underlying30 Try.underlying3 cellsInt h with ⟨hcs, _⟩ | ⟨a, len, cap, zs, hcs, _, hl, hm, hz, hx, hcell, hwz⟩
  · cases hcs; exact ⟨[], .inl (Has.nil 1 w)⟩
  · cases hcs
    simp only [if_true] at hz
    by_cases h0 : cap = 0
    · subst h0
      obtain rfl : len = 0 := by omega
      exact ⟨[], .inr ⟨rfl, a, rfl⟩⟩
    · have hs := hcell 0 (by omega)
      rw [show a.add 0 = a from if_pos rfl] at hs
      have hsp := spot_none hs
      obtain ⟨b, o, s⟩ := a
      cases hsp
      have hlen : (zs.take len).length = len := by rw [List.length_take]; omega
      refine ⟨zs.take len, .inl (.inl ⟨b, o, len, cap, rfl, by simp only [ints, List.length_map, hlen]; omega, hl, fun j u hj => ?_⟩)⟩
      simp only [ints, List.getElem?_map, Option.map_eq_some_iff] at hj
      obtain ⟨z, hj, rfl⟩ := hj
      obtain ⟨hjl, hj⟩ := List.getElem?_eq_some_iff.1 hj
      rw [hlen] at hjl
      have := hcell j (by omega)
      rw [add_lit] at this
      rw [this, ← hj, List.getElem_take, List.getD_eq_getElem?_getD, List.getElem?_eq_getElem (by omega)]; rfl
theorem cellsDeed3 : Try.prog.cellsOf 32 = 3 := by kernel_rfl
theorem cellsInts : Try.prog.cellsOf 30 = 1 := by kernel_rfl
set_option maxRecDepth 100000 in
theorem deed3_fields {fuel : Nat} {cs : List Value} {x : DataW H × List MemPlace} (h : DataW.trod enc Try.prog w base (fun _ => true) held fuel 32 cs = some x) :
    ∃ (y : Deed3) (u : Value), cs = [.bool y.short, u, .int .u8 (y.byte.toNat : Int)] ∧ HasX w u y.pages := by
  obtain ⟨y0, y1, y2, n, _, hl, h0, h1, h2⟩ := trod_struct3 Try.underlying32 h
  rw [cellsDeed3] at hl
  match cs, hl with
  | [c0, c1, c2], _ =>
    simp only [cellsBool, cellsInts, cellsU8, List.drop_zero, List.drop_succ_cons, List.take_succ_cons, List.take_zero] at h0 h1 h2
    obtain ⟨a0, e0, _⟩ := DataW.trod_bool Try.underlying4 h0
    obtain ⟨l, hl⟩ := open_intsX h1
    obtain ⟨a2, e2, _, wf⟩ := DataW.trod_int Try.underlying5 h2
    cases e0; cases e2
    have hb := bounds_u8 wf
    refine ⟨⟨a0, l, UInt8.ofNat a2.toNat⟩, c1, ?_, hl⟩
    have : ((UInt8.ofNat a2.toNat).toNat : Int) = a2 := by
      rw [UInt8.toNat_ofNat']; omega
    simp only [this]
set_option maxRecDepth 100000 in
theorem open_deeds3 {v : Value} {d : DataW H} {p : List MemPlace} {W : World} {b0 : Nat} (hv : Value.okWide Try.prog W .any b0 22 v) (h : DataW.Trod enc Try.prog W 0 (fun _ => true) true 22 v d p) :
    ∃ l : List Deed3, DeedsAt W v l := by
  have hC := cellsDeed3
  obtain ⟨fuel, hf⟩ := h
  rcases okSlice Try.underlying22 hv with rfl | ⟨b, o, len, cap, rfl⟩
  · exact ⟨[], [], Has.nil 3 W, rfl, fun i hi => by simp at hi⟩
  rcases open_slice Try.underlying22 hf with ⟨hcs, _⟩ | ⟨a, len', cap', m, n, D, Pl, hcs, hb, hl, hm, hmm, hx, hi⟩
  · simp [Value.cells] at hcs
  simp only [Value.cells, List.cons.injEq, Value.slice.injEq, and_true, Option.some.injEq] at hcs
  obtain ⟨rfl, rfl, rfl⟩ := hcs
  simp only [if_true] at hmm
  have key : ∀ k, k ≤ len → ∃ (l : List Deed3) (xs : List Value), l.length = k ∧ xs.length = 3 * k ∧ (∀ j u, xs[j]? = some u → W.cell? ⟨b, o + j, none⟩ = some u) ∧
      ∀ i (h : i < l.length), ∃ u, xs[3 * i]? = some (.bool l[i].short) ∧ xs[3 * i + 1]? = some u ∧ xs[3 * i + 2]? = some (.int .u8 (l[i].byte.toNat : Int)) ∧ HasX W u l[i].pages := by
    intro k
    induction k with
    | zero => intro _; exact ⟨[], [], rfl, rfl, fun j u hj => by simp at hj, fun i hi => by simp at hi⟩
    | succ k ih =>
      intro hk
      obtain ⟨l, xs, hll, hxl, hlc, hld⟩ := ih (by omega)
      obtain ⟨cs', hc, ht'⟩ := hi k (by omega)
      obtain ⟨y, u, rfl, hu⟩ := deed3_fields ht'
      obtain ⟨_, _, hat⟩ := World.cells?_some hc
      rw [hC] at hat
      refine ⟨l ++ [y], xs ++ [.bool y.short, u, .int .u8 (y.byte.toNat : Int)], by simp [hll], by simp [hxl]; omega, fun j v hj => ?_, fun i hi => ?_⟩
      · by_cases hjl : j < xs.length
        · rw [List.getElem?_append_left hjl] at hj; exact hlc j v hj
        · rw [List.getElem?_append_right (by omega)] at hj
          have hj3 : j - xs.length < 3 := by
            have := (List.getElem?_eq_some_iff.1 hj).1
            simpa using this
          have := hat (j - xs.length) hj3
          rw [add_lit, add_lit, hj] at this
          rw [← this]
          congr 2; omega
      · by_cases hil : i < l.length
        · obtain ⟨v, h1, h2, h3, h4⟩ := hld i hil
          refine ⟨v, ?_, ?_, ?_, ?_⟩
          · rw [List.getElem?_append_left (by omega), List.getElem_append_left hil]; exact h1
          · rw [List.getElem?_append_left (by omega)]; exact h2
          · rw [List.getElem?_append_left (by omega), List.getElem_append_left hil]; exact h3
          · rw [List.getElem_append_left hil]; exact h4
        · have hie : i = k := by simp at hi; omega
          subst hie
          have hy : (l ++ [y])[i]'hi = y := by rw [List.getElem_append_right (by omega)]; simp [hll]
          rw [hy]
          refine ⟨u, ?_, ?_, ?_, hu⟩
          · rw [List.getElem?_append_right (by omega), show 3 * i - xs.length = 0 from by omega]; rfl
          · rw [List.getElem?_append_right (by omega), show 3 * i + 1 - xs.length = 1 from by omega]; rfl
          · rw [List.getElem?_append_right (by omega), show 3 * i + 2 - xs.length = 2 from by omega]; rfl
  obtain ⟨l, xs, hll, hxl, hlc, hld⟩ := key len (Nat.le_refl _)
  exact ⟨l, xs, .inl ⟨b, o, len, cap, rfl, by omega, hl, hlc⟩, by omega, hld⟩
end
end Go.Proofs.Ytneehlkofcdhoaa
