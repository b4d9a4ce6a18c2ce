/- Logs over a new disk: the program's and the reference's. -/
import Derived.Test.YtneehlkofcdhoaaRo
namespace Go.Proofs.Ytneehlkofcdhoaa
open Go
set_option linter.unusedSimpArgs false
open Go.RowKit (intOf)
/-- No log. -/
theorem lopen_none {w : World} {n size : Int} (h : ¬ ((1 ≤ n ∧ n ≤ 4096) ∧ (1 ≤ size ∧ size ≤ n - 2))) :
    Calls Try.prog 11 #[.int .i64 n, .int .i64 size] w (Ret fun v w' => v = .tuple #[.pointer none, .pointer none, .bool true] ∧ Grow w w') := by
  apply enter11
  apply R_in
  by_cases hn : 1 ≤ n ∧ n ≤ 4096
  · have hsz : size < 1 ∨ n - 2 < size := by omega
    obtain ⟨m, rfl⟩ : ∃ m : Nat, n = m := ⟨n.toNat, by omega⟩
    simp (maxSteps := 600000) (disch := omega) only [F11, ↓sy1, sy2, sy3, readOK, sy5, sy6, Nat.reduceEqDiff, ↓reduceIte, sy7, sy8, sy9, sya, oneOf, syb, syc, Nat.reduceAdd, Nat.reduceMul, syd, sye, syf, syg, syh, reduceCtorEq]
    refine call0 (new_spec G00 1 (n := m) (by omega) (by omega)) ?_
    rintro _ w1 ⟨p, G1, rfl, hp1, hd1, hx1⟩
    simp (maxSteps := 600000) (disch := omega) only [↓sy1, sy2, sy3, readOK, sy5, sy6, Nat.reduceEqDiff, ↓reduceIte, sy7, sy8, sy9, sya, oneOf, syb, syc, Nat.reduceAdd, Nat.reduceMul, syd, sye, syf, syg, syh, reduceCtorEq]
    refine call0 (rnew_spec G1 2 (n := m) (by omega) (by omega)) ?_
    rintro _ w2 ⟨r, G2, rfl, hr1, hr2, hx2⟩
    simp (maxSteps := 600000) (disch := omega) only [↓sy1, sy2, sy3, readOK, sy5, sy6, Nat.reduceEqDiff, ↓reduceIte, sy7, sy8, sy9, sya, oneOf, syb, syc, Nat.reduceAdd, Nat.reduceMul, syd, sye, syf, syg, syh, reduceCtorEq, decide_true, Bool.not_true]
    refine call0 (open_bad (hd1.ext hx2 id) (by rw [zero_len]; exact hsz)) ?_
    rintro _ w3 ⟨rfl, rfl⟩
    simp (maxSteps := 600000) (disch := omega) only [↓sy1, sy2, sy3, readOK, sy5, sy6, Nat.reduceEqDiff, ↓reduceIte, sy7, sy8, sy9, sya, oneOf, syb, syc, Nat.reduceAdd, Nat.reduceMul, syd, sye, syf, syg, syh, reduceCtorEq]
    refine call0 (ropen_bad hr2 (by rw [zero_len]; exact hsz)) ?_
    rintro _ w3 ⟨rfl, rfl⟩
    simp (maxSteps := 600000) (disch := omega) only [↓sy1, sy2, sy3, readOK, sy5, sy6, Nat.reduceEqDiff, ↓reduceIte, sy7, sy8, sy9, sya, oneOf, syb, syc, Nat.reduceAdd, Nat.reduceMul, syd, sye, syf, syg, syh, reduceCtorEq, decide_true, beq_self_eq_true]
    exact R_out (((hx1.trans hx2).mono (fun _ h => h.elim)).toGrow (κ := fun _ => False) id)
  · have hb : n < 1 ∨ 4096 < n := by omega
    simp (maxSteps := 600000) (disch := omega) only [F11, ↓sy1, sy2, sy3, readOK, sy5, sy6, Nat.reduceEqDiff, ↓reduceIte, sy7, sy8, sy9, sya, oneOf, syb, syc, Nat.reduceAdd, Nat.reduceMul, syd, sye, syf, syg, syh, reduceCtorEq]
    refine call0 (new_bad hb) ?_
    rintro _ w1 ⟨rfl, rfl⟩
    simp (maxSteps := 600000) (disch := omega) only [↓sy1, sy2, sy3, readOK, sy5, sy6, Nat.reduceEqDiff, ↓reduceIte, sy7, sy8, sy9, sya, oneOf, syb, syc, Nat.reduceAdd, Nat.reduceMul, syd, sye, syf, syg, syh, reduceCtorEq]
    refine call0 (rnew_bad hb) ?_
    rintro _ w2 ⟨rfl, rfl⟩
    simp (maxSteps := 600000) (disch := omega) only [↓sy1, sy2, sy3, readOK, sy5, sy6, Nat.reduceEqDiff, ↓reduceIte, sy7, sy8, sy9, sya, oneOf, syb, syc, Nat.reduceAdd, Nat.reduceMul, syd, sye, syf, syg, syh, reduceCtorEq, decide_true, Bool.not_true]
    refine call0 open_nil ?_
    rintro _ w3 ⟨rfl, rfl⟩
    simp (maxSteps := 600000) (disch := omega) only [↓sy1, sy2, sy3, readOK, sy5, sy6, Nat.reduceEqDiff, ↓reduceIte, sy7, sy8, sy9, sya, oneOf, syb, syc, Nat.reduceAdd, Nat.reduceMul, syd, sye, syf, syg, syh, reduceCtorEq]
    refine call0 ropen_nil ?_
    rintro _ w3 ⟨rfl, rfl⟩
    simp (maxSteps := 600000) (disch := omega) only [↓sy1, sy2, sy3, readOK, sy5, sy6, Nat.reduceEqDiff, ↓reduceIte, sy7, sy8, sy9, sya, oneOf, syb, syc, Nat.reduceAdd, Nat.reduceMul, syd, sye, syf, syg, syh, reduceCtorEq, decide_true, beq_self_eq_true]
    exact R_out (Keep.refl _ _)
/-- Both logs. -/
theorem lopen_spec {G : Gh} {w : World} {n size : Nat} (κ κ' : Nat) (hκ : κ ≠ 0) (hκ' : κ' ≠ 0) (hn : n ≤ 4096) (h1 : 1 ≤ size) (h2 : size + 2 ≤ n) :
    Calls Try.prog 11 #[.int .i64 n, .int .i64 size] w (Ret fun v w' => ∃ q r G', v = .tuple #[.pointer (some ⟨q, 0, none⟩), .pointer (some ⟨r, 0, none⟩), .bool true] ∧ w.heap.size ≤ q ∧ LogAt G' κ w' q size 0 (Dsk.zero n) ∧ RLogAt G' κ' w' r size 0 (Dsk.zero n) ∧ Ext0 G w G' w') := by
  apply enter11
  apply R_in
  simp (maxSteps := 600000) (disch := omega) only [F11, ↓sy1, sy2, sy3, readOK, sy5, sy6, Nat.reduceEqDiff, ↓reduceIte, sy7, sy8, sy9, sya, oneOf, syb, syc, Nat.reduceAdd, Nat.reduceMul, syd, sye, syf, syg, syh, reduceCtorEq]
  refine call0 (new_spec G 1 (n := n) (by omega) hn) ?_
  rintro _ w1 ⟨p, G1, rfl, hp1, hd1, hx1⟩
  simp (maxSteps := 600000) (disch := omega) only [↓sy1, sy2, sy3, readOK, sy5, sy6, Nat.reduceEqDiff, ↓reduceIte, sy7, sy8, sy9, sya, oneOf, syb, syc, Nat.reduceAdd, Nat.reduceMul, syd, sye, syf, syg, syh, reduceCtorEq]
  refine call0 (rnew_spec G1 2 (n := n) (by omega) hn) ?_
  rintro _ w2 ⟨r, G2, rfl, hr1, hr2, hx2⟩
  simp (maxSteps := 600000) (disch := omega) only [↓sy1, sy2, sy3, readOK, sy5, sy6, Nat.reduceEqDiff, ↓reduceIte, sy7, sy8, sy9, sya, oneOf, syb, syc, Nat.reduceAdd, Nat.reduceMul, syd, sye, syf, syg, syh, reduceCtorEq, decide_true, Bool.not_true]
  refine call0 (open_spec κ hκ (hd1.ext hx2 id) h1 (by rw [zero_len]; exact h2) (.inl (zero_image (by omega)))) ?_
  rintro _ w3 ⟨q, G3, rfl, hq3, hl3, hx3⟩
  simp (maxSteps := 600000) (disch := omega) only [↓sy1, sy2, sy3, readOK, sy5, sy6, Nat.reduceEqDiff, ↓reduceIte, sy7, sy8, sy9, sya, oneOf, syb, syc, Nat.reduceAdd, Nat.reduceMul, syd, sye, syf, syg, syh, reduceCtorEq]
  refine call0 (ropen0_spec κ' hκ' (hr2.ext hx3 id) h1 (by rw [zero_len]; exact h2) (zero_image (by omega))) ?_
  rintro _ w4 ⟨r4, G4, rfl, hr4, hl4, hx4⟩
  simp (maxSteps := 600000) (disch := omega) only [↓sy1, sy2, sy3, readOK, sy5, sy6, Nat.reduceEqDiff, ↓reduceIte, sy7, sy8, sy9, sya, oneOf, syb, syc, Nat.reduceAdd, Nat.reduceMul, syd, sye, syf, syg, syh, reduceCtorEq, decide_true, beq_self_eq_true]
  have hs := (hx1.trans hx2).size
  exact R_out ⟨q, r4, G4, rfl, by omega, hl3.ext hx4 id id, hl4, ((hx1.trans hx2).trans hx3).trans hx4⟩
end Go.Proofs.Ytneehlkofcdhoaa
