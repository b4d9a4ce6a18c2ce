/- A log is opened over a disk whose head is none. -/
import Derived.Test.YtneehlkofcdhoaaHd
namespace Go.Proofs.Ytneehlkofcdhoaa
open Go
set_option linter.unusedSimpArgs false
open Go.RowKit (intOf)
theorem fillF_log {a b c x y : Value} (hx : isCell x = true) (hy : isCell y = true) : fillF #[a, b, c] [(0, 1, .agg #[x]), (1, 1, y)] = some #[x, y, c] := by
  rw [fillF]
  have : (Value.agg #[x]).cells = #[x] := by simp [Value.cells, isCell_cells hx]
  rw [this]
  simp [fillF, isCell_cells hy]
theorem open_bad {G : Gh} {κ : Nat} {w : World} {p : Nat} {n : Int} {D : Dsk} (h : DiskAt G κ w p D) (hn : n < 1 ∨ (D.first.length : Int) - 2 < n) :
    Calls Try.prog 16 #[.pointer (some ⟨p, 0, none⟩), .int .i64 n] w (Ret fun v w' => v = .tuple #[.pointer none, .int .i64 2] ∧ w' = w) := by
  have hmost := h.ok.most
  apply enter16
  apply R_in
  by_cases h1 : n < 1
  · simp (maxSteps := 600000) (disch := omega) only [F16, ↓sy1, sy2, sy3, readOK, sy5, sy6, Nat.reduceEqDiff, ↓reduceIte, sy7, sy8, sy9, sya, oneOf, syb, syc, Nat.reduceAdd, Nat.reduceMul, syd, sye, syf, syg, syh, reduceCtorEq, h1, decide_true]
    exact R_out trivial
  · simp (maxSteps := 600000) (disch := omega) only [F16, ↓sy1, sy2, sy3, readOK, sy5, sy6, Nat.reduceEqDiff, ↓reduceIte, sy7, sy8, sy9, sya, oneOf, syb, syc, Nat.reduceAdd, Nat.reduceMul, syd, sye, syf, syg, syh, reduceCtorEq, h1, decide_false]
    refine call0 (sectors_spec h) ?_
    rintro _ w1 ⟨rfl, rfl⟩
    simp (maxSteps := 600000) (disch := omega) only [↓sy1, sy2, sy3, readOK, sy5, sy6, Nat.reduceEqDiff, ↓reduceIte, sy7, sy8, sy9, sya, oneOf, syb, syc, Nat.reduceAdd, Nat.reduceMul, syd, sye, syf, syg, syh, reduceCtorEq, show ((D.first.length : Int) - 2 < n) from by omega, decide_true]
    exact R_out trivial
theorem open_spec {G : Gh} {κ : Nat} {w : World} {p size : Nat} {D : Dsk} (κ' : Nat) (hκ : κ' ≠ 0) (h : DiskAt G κ w p D) (h1 : 1 ≤ size) (h2 : size + 2 ≤ D.first.length) (hh : D.image[0]? = some zsec ∨ D.image[0]? = some (headB [])) :
    Calls Try.prog 16 #[.pointer (some ⟨p, 0, none⟩), .int .i64 size] w (Ret fun v w' => ∃ q G', v = .tuple #[.pointer (some ⟨q, 0, none⟩), .int .i64 0] ∧ w.heap.size ≤ q ∧ LogAt G' κ' w' q size 0 D ∧ Ext0 G w G' w') := by
  have hmost := h.ok.most
  apply enter16
  apply R_in
  simp (maxSteps := 600000) (disch := omega) only [F16, ↓sy1, sy2, sy3, readOK, sy5, sy6, Nat.reduceEqDiff, ↓reduceIte, sy7, sy8, sy9, sya, oneOf, syb, syc, Nat.reduceAdd, Nat.reduceMul, syd, sye, syf, syg, syh, reduceCtorEq, show ¬ ((size : Int) < 1) from by omega, decide_false]
  refine call0 (sectors_spec h) ?_
  rintro _ w0 ⟨rfl, rfl⟩
  simp (maxSteps := 600000) (disch := omega) only [↓sy1, sy2, sy3, readOK, sy5, sy6, Nat.reduceEqDiff, ↓reduceIte, sy7, sy8, sy9, sya, oneOf, syb, syc, Nat.reduceAdd, Nat.reduceMul, syd, sye, syf, syg, syh, reduceCtorEq, show ¬ ((D.first.length : Int) - 2 < (size : Int)) from by omega, decide_false]
  refine call0 (fork_spec κ' h) ?_
  rintro _ w1 ⟨p', G1, rfl, hp1, hd1, hx1⟩
  have hcp : isCell (.pointer (some ⟨p', 0, none⟩)) = true := rfl
  have hg2 : Grow w1 (w1.alloc (.cells #[.pointer (some ⟨p', 0, none⟩), .int .i64 size, .int .i64 0] 83)) := (Keep.refl _ _).alloc _
  have hb2 := heap_alloc_new w1 (.cells #[.pointer (some ⟨p', 0, none⟩), .int .i64 size, .int .i64 0] 83)
  generalize hw2 : w1.alloc (.cells #[.pointer (some ⟨p', 0, none⟩), .int .i64 size, .int .i64 0] 83) = w2 at hg2 hb2
  simp (maxSteps := 600000) (disch := omega) only [↓sy1, sy2, sy3, readOK, sy5, sy6, Nat.reduceEqDiff, ↓reduceIte, sy7, sy8, sy9, sya, oneOf, syb, syc, Nat.reduceAdd, Nat.reduceMul, syd, sye, syf, syg, syh, reduceCtorEq, oneF_cell hcp, fill_gen, fillF_log (a := .pointer none) (b := .int .i64 0) (c := .int .i64 0) hcp (show isCell (.int .i64 (size : Int)) = true from rfl), agg3_cells hcp (show isCell (.int .i64 (size : Int)) = true from rfl) (show isCell (.int .i64 0) = true from rfl), hw2]
  have hq1 : w0.heap.size ≤ w1.heap.size := hx1.size
  have hx2 : Ext0 G1 w1 (G1.new w1.heap.size) w2 := .newB hg2
  have hno : ∀ b, w1.heap.size ≤ b → (G1.new w1.heap.size).own b = 0 ∧ (G1.new w1.heap.size).fix b = 0 := fun b hb => ⟨Gh.new_own hb, by simp [Gh.upto, Nat.not_lt.2 hb]⟩
  have hd2 := hd1.ext hx2 id
  have hlog : LogAt (G1.new w1.heap.size) κ' w2 w1.heap.size size 0 D := ⟨hκ, h1, h2, (hno _ (Nat.le_refl _)).1, p', hb2, hd2⟩
  have hhead : Calls Try.prog 50 #[.pointer (some ⟨w1.heap.size, 0, none⟩)] w2 (Ret fun v w' => ∃ u, v = .tuple #[u, .bool true] ∧ (∀ w3, lenF w3 0 u = some (.int .i64 0)) ∧ Grow w2 w') := by
    rcases hh with hh | hh
    · refine Ret.mono (head_zero hlog hh) fun v w' ⟨hv, hg⟩ => ⟨_, hv, fun w3 => rfl, hg⟩
    · refine Ret.mono (head_spec (ns := []) hlog hh (by simp) (by simp) (by simp)) fun v w' ⟨u, hv, hu, hg⟩ => ⟨u, hv, fun w3 => by rw [(Has.own hu).len]; rfl, hg⟩
  refine call0 hhead ?_
  rintro _ w3 ⟨u, rfl, hlu, hg3⟩
  have hb3 := hg3.gheap hb2
  obtain ⟨w4, hst, hb4, hk4⟩ := cell_store hb3 (i := 2) (by simp) (u := .int .i64 0) rfl
  have hb4' : w4.heap[w1.heap.size]? = some (.cells #[.pointer (some ⟨p', 0, none⟩), .int .i64 size, .int .i64 0] 83 (0, 0)) := by simpa using hb4
  have hc4 : w4.cell? ⟨w1.heap.size, 2, none⟩ = some (.int .i64 0) := by rw [cell_block hb4']; rfl
  simp (maxSteps := 600000) (disch := omega) only [↓sy1, sy2, sy3, readOK, sy5, sy6, Nat.reduceEqDiff, ↓reduceIte, sy7, sy8, sy9, sya, oneOf, syb, syc, Nat.reduceAdd, Nat.reduceMul, syd, sye, syf, syg, syh, reduceCtorEq, hlu, hst, hc4, show ¬ ((0 : Int) < 0) from by omega, decide_false]
  have hg14 : Grow w1 w4 := (hg2.trans hg3).then hk4 (fun b hb h => by omega)
  have hx4 : Ext (fun c => c = 0) (G1.new w1.heap.size) w3 (G1.new w1.heap.size) w4 := .on0 hk4 (hno _ (Nat.le_refl _)).1 (hno _ (Nat.le_refl _)).2
  have hd4 := (hd2.grow hg3).ext hx4 hκ
  exact R_out ⟨w1.heap.size, G1.new w1.heap.size, rfl, hq1, ⟨hκ, h1, h2, (hno _ (Nat.le_refl _)).1, p', hb4', hd4⟩, hx1.trans (.newB hg14)⟩
end Go.Proofs.Ytneehlkofcdhoaa
