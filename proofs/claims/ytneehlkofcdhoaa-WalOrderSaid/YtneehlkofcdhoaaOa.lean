/- Arguments opened: rows of numbers, of bytes. What is only read reads as it did. -/
import Derived.Test.YtneehlkofcdhoaaBa
import Derived.Carry
import Derived.Deep.Slices
import Derived.Lib.SmallJoins
import Derived.OpenShut
namespace Go.Proofs.Ytneehlkofcdhoaa
open Go
set_option linter.unusedSimpArgs false
open Go.RowKit Go.ChangeShapes Go.WideShapes Go.Deep Go.Joins
theorem okSlice {P : Program} {w : World} {r : Reach} {base : Nat} {t e : TypeId} {v : Value} (ht : P.underlying t = some (.slice e)) (h : Value.okWide P w r base t v) :
    v = .slice none 0 0 ∨ ∃ b o len cap, v = .slice (some ⟨b, o, none⟩) len cap := by
  simp only [Value.okWide, ht, Cell.okWide] at h
  cases v with
  | slice a len cap =>
    cases a with
    | none =>
      simp only [Cell.ok, ht] at h
      cases len <;> cases cap <;> simp at h
      exact .inl rfl
    | some a =>
      simp only [Cell.ok, ht] at h
      obtain ⟨_, _, _, hs, _⟩ := h
      obtain ⟨b, o, s⟩ := a
      cases hs
      exact .inr ⟨b, o, len, cap, rfl⟩
  | _ => simp [Cell.ok, ht] at h
section
variable {H : Type} {enc : TypeId × Value → H} {w : World} {base : Nat} {spare : Nat → Bool} {held : Bool}
theorem cellsBool : Try.prog.cellsOf 4 = 1 := by kernel_rfl
theorem cellsInt : Try.prog.cellsOf 3 = 1 := by kernel_rfl
theorem cellsU8 : Try.prog.cellsOf 5 = 1 := by kernel_rfl
set_option maxRecDepth 100000 in
/-- A row of numbers. -/
theorem open_intsL {v : Value} {d : DataW H} {p : List MemPlace} {W : World} {b0 : Nat} (hv : Value.okWide Try.prog W .any b0 30 v) (h : DataW.Trod enc Try.prog W 0 (fun _ => true) true 30 v d p) :
    ∃ l : List Int, HasI W v l ∧ l.length ≤ 9223372036854775807 ∧ ∀ z ∈ l, -9223372036854775808 ≤ z ∧ z ≤ 9223372036854775807 := by
  obtain ⟨fuel, hf⟩ := h
  rcases okSlice Try.underlying30 hv with rfl | ⟨b, o, len, cap, rfl⟩
  · exact ⟨[], Has.nil 1 W, by simp, by simp⟩
  rcases open_ints Try.underlying30 Try.underlying3 cellsInt hf with ⟨hcs, _⟩ | ⟨a, len', cap', zs, hcs, _, hl, hm, hz, hx, hcell, hwz⟩
  · simp [Value.cells] at hcs
  simp only [Value.cells, List.cons.injEq, Value.slice.injEq, and_true, Option.some.injEq] at hcs
  obtain ⟨rfl, rfl, rfl⟩ := hcs
  simp only [if_true] at hz
  have hlen : (zs.take len).length = len := by rw [List.length_take]; omega
  refine ⟨zs.take len, .inl ⟨b, o, len, cap, rfl, by simp only [ints, List.length_map, hlen]; omega, hl, fun j u hj => ?_⟩, ?_, fun z hz' => ?_⟩
  · simp only [ints, List.getElem?_map, Option.map_eq_some_iff] at hj
    obtain ⟨z, hj, rfl⟩ := hj
    obtain ⟨hjl, hj⟩ := List.getElem?_eq_some_iff.1 hj
    rw [hlen] at hjl
    have := hcell j (by omega)
    rw [add_lit] at this
    rw [this, ← hj, List.getElem_take, List.getD_eq_getElem?_getD, List.getElem?_eq_getElem (by omega)]; rfl
  · rw [hlen]; have : maxLen = 9223372036854775807 := rfl; omega
  · have := bounds_i64 (hwz z (List.mem_of_mem_take hz')); omega
set_option maxRecDepth 100000 in
/-- A row of bytes. -/
theorem open_bytesL {v : Value} {d : DataW H} {p : List MemPlace} {W : World} {b0 : Nat} (hv : Value.okWide Try.prog W .any b0 28 v) (h : DataW.Trod enc Try.prog W 0 (fun _ => true) true 28 v d p) :
    ∃ l : List UInt8, HasB W v l := by
  obtain ⟨fuel, hf⟩ := h
  rcases okSlice Try.underlying28 hv with rfl | ⟨b, o, len, cap, rfl⟩
  · exact ⟨[], Has.nil 1 W⟩
  rcases open_ints Try.underlying28 Try.underlying5 cellsU8 hf with ⟨hcs, _⟩ | ⟨a, len', cap', zs, hcs, _, hl, hm, hz, hx, hcell, hwz⟩
  · simp [Value.cells] at hcs
  simp only [Value.cells, List.cons.injEq, Value.slice.injEq, and_true, Option.some.injEq] at hcs
  obtain ⟨rfl, rfl, rfl⟩ := hcs
  simp only [if_true] at hz
  have hlen : (zs.take len).length = len := by rw [List.length_take]; omega
  refine ⟨(zs.take len).map fun z => UInt8.ofNat z.toNat, .inl ⟨b, o, len, cap, rfl, by simp [bs]; omega, hl, fun j u hj => ?_⟩⟩
  simp only [bs, List.map_map, List.getElem?_map, Option.map_eq_some_iff, Function.comp] at hj
  obtain ⟨z, hj, rfl⟩ := hj
  obtain ⟨hjl, hj⟩ := List.getElem?_eq_some_iff.1 hj
  rw [hlen] at hjl
  have := hcell j (by omega)
  rw [add_lit] at this
  have hbz := bounds_u8 (hwz z (by rw [← hj, List.getElem_take]; exact List.getElem_mem _))
  rw [this, ← hj, List.getElem_take, List.getD_eq_getElem?_getD, List.getElem?_eq_getElem (by omega)]
  rw [List.getElem_take] at hj
  have hz' : ((UInt8.ofNat z.toNat).toNat : Int) = z := by rw [UInt8.toNat_ofNat']; omega
  rw [hj, hz']; rfl
theorem u8_nat {n : Int} (h : (Lit.int .u8 n).wf = true) : ∃ k : Nat, k < 256 ∧ n = (k : Int) := by
  have := bounds_u8 h
  exact ⟨n.toNat, by omega, by omega⟩
/-- What is only read reads as it did. -/
theorem argsStay {P : Program} {W W' : World} (hl : laidOutB P = true) (hb : Below W.heap.size W W') : ∀ {ts : List TypeId} {vs : List Value} {ds : List (DataW H)} {ps : List MemPlace}, (ts.all fun t => P.readableRec t && decide (t < P.types.size)) = true →
    DataW.TrodAll enc P W 0 (fun _ => true) true ts vs ds ps → (∀ x ∈ ps, x.block < W.heap.size) → DataW.TrodAll enc P W' 0 (fun b => decide (b < W.heap.size)) true ts vs ds ps
  | [], _, _, _, _, h, _ => by
    obtain ⟨rfl, rfl, rfl⟩ := trodAll_nil h
    exact trodAll_mk0
  | t :: ts, _, _, _, ht, h, hlt => by
    obtain ⟨v, vs, d, ds, p, q, rfl, rfl, rfl, h0, h1⟩ := trodAll_cons h
    simp only [List.all_cons, Bool.and_eq_true, decide_eq_true_eq] at ht
    exact trodAll_cons_mk (Below.trod hl ht.1.1 ht.1.2 h0 hb (fun x hx => hlt x (by simp [hx]))) (argsStay hl hb ht.2 h1 (fun x hx => hlt x (by simp [hx])))
end
end Go.Proofs.Ytneehlkofcdhoaa
