/- What a log tells: pages, room, a page, its disk. -/
import Derived.Test.YtneehlkofcdhoaaHo
import Derived.Test.YtneehlkofcdhoaaFk
import Derived.Laws.Small
namespace Go.Proofs.Ytneehlkofcdhoaa
open Go
set_option linter.unusedSimpArgs false
open Go.RowKit (intOf)
section rules
variable {P : Program} {k : Kont} {e : Env} {w : World} {l : List GOp} {d : Option Nat}
theorem min_rule {x y : Operand} {ts : Array TypeId} {ty : TypeId} {a b : Int} (hx : ev e x = .int .i64 a) (hy : ev e y = .int .i64 b) (h : R (symOps P l k (updO e d (.int .i64 (if b < a then b else a))) w)) :
    R (symOps P (⟨d, .hard (H (.call { callee := .builtin .min, args := #[x, y], argTypes := ts }) ty), none⟩ :: l) k e w) :=
  hard_rule (run_builtin (vs := [.int .i64 a, .int .i64 b]) (by simp [hx, hy]) (fun cs => by simp only [builtin, run_min_int2, Sem.run_bind, Result.andThen_ok]; rfl)) h
end rules
theorem LogAt.cells {G : Gh} {κ : Nat} {w : World} {q size came : Nat} {D : Dsk} (h : LogAt G κ w q size came D) :
    ∃ p, DiskAt G κ w p D ∧ ∀ {w'}, Grow w w' → w'.cell? ⟨q, 0, none⟩ = some (.pointer (some ⟨p, 0, none⟩)) ∧ w'.cell? ⟨q, 1, none⟩ = some (.int .i64 size) ∧ w'.cell? ⟨q, 2, none⟩ = some (.int .i64 came) := by
  obtain ⟨hκ, hs1, hs2, ho0, p, hq, hd⟩ := h
  exact ⟨p, hd, fun hg => ⟨by rw [cell_block (hg.gheap hq)]; rfl, by rw [cell_block (hg.gheap hq)]; rfl, by rw [cell_block (hg.gheap hq)]; rfl⟩⟩
theorem pages_spec {G : Gh} {κ : Nat} {w : World} {q size came : Nat} {D : Dsk} (h : LogAt G κ w q size came D) :
    Calls Try.prog 21 #[.pointer (some ⟨q, 0, none⟩)] w (Ret fun v w' => v = .int .i64 ((D.first.length - size - 1 : Nat) : Int) ∧ Grow w w') := by
  obtain ⟨p, hd, hc⟩ := h.cells
  have hs2 := h.2.2.1
  have hmost := hd.ok.most
  apply enter21
  apply R_in
  simp (maxSteps := 600000) (disch := omega) only [F21, ↓sy1, sy2, sy3, readOK, sy5, sy6, Nat.reduceEqDiff, ↓reduceIte, sy7, sy8, sy9, sya, oneOf, syb, syc, Nat.reduceAdd, Nat.reduceMul, syd, sye, syf, syg, syh, reduceCtorEq]
  refine draw21_0 (fun _ => False) ?_
  have hgd : Grow w w.drew := (Keep.refl _ _).drew
  generalize w.drew = w1 at hgd ⊢
  simp (maxSteps := 600000) (disch := omega) only [PL21_0, ↓sy1, sy2, sy3, readOK, sy5, sy6, Nat.reduceEqDiff, ↓reduceIte, sy7, sy8, sy9, sya, oneOf, syb, syc, Nat.reduceAdd, Nat.reduceMul, syd, sye, syf, syg, syh, reduceCtorEq, hc hgd]
  refine call0 (sectors_spec (hd.grow hgd)) ?_
  rintro _ w2 ⟨rfl, rfl⟩
  simp (maxSteps := 600000) (disch := omega) only [↓sy1, sy2, sy3, readOK, sy5, sy6, Nat.reduceEqDiff, ↓reduceIte, sy7, sy8, sy9, sya, oneOf, syb, syc, Nat.reduceAdd, Nat.reduceMul, syd, sye, syf, syg, syh, reduceCtorEq]
  refine ⟨Keep.refl _ _, ?_⟩
  exact R_out ⟨by congr 1; omega, hgd⟩
theorem capacity_spec {G : Gh} {κ : Nat} {w : World} {q size came : Nat} {D : Dsk} (h : LogAt G κ w q size came D) :
    Calls Try.prog 22 #[.pointer (some ⟨q, 0, none⟩)] w (Ret fun v w' => v = .int .i64 ((min size 100 : Nat) : Int) ∧ w' = w) := by
  obtain ⟨p, hd, hc⟩ := h.cells
  apply enter22
  apply R_in
  simp (maxSteps := 600000) (disch := omega) only [F22, ↓sy1, sy2, sy3, readOK, sy5, sy6, Nat.reduceEqDiff, ↓reduceIte, sy7, sy8, sy9, sya, oneOf, syb, syc, Nat.reduceAdd, Nat.reduceMul, syd, sye, syf, syg, syh, reduceCtorEq, hc (Keep.refl _ _)]
  refine min_rule (a := size) (b := 100) (by simp only [upd_at, Nat.reduceEqDiff, reduceIte, ev_tmp, ev_const, List.map_cons, List.map_nil]) (by simp only [upd_at, Nat.reduceEqDiff, reduceIte, ev_tmp, ev_const, List.map_cons, List.map_nil]) ?_
  simp (maxSteps := 600000) (disch := omega) only [↓sy1, sy2, sy3, readOK, sy5, sy6, Nat.reduceEqDiff, ↓reduceIte, sy7, sy8, sy9, sya, oneOf, syb, syc, Nat.reduceAdd, Nat.reduceMul, syd, sye, syf, syg, syh, reduceCtorEq]
  refine R_out ?_
  have : (if (100 : Int) < (size : Int) then (100 : Int) else (size : Int)) = ((min size 100 : Nat) : Int) := by
    split <;> omega
  first | exact ⟨by rw [this], trivial⟩ | (rw [this])
theorem came_spec {G : Gh} {κ : Nat} {w : World} {q size came : Nat} {D : Dsk} (h : LogAt G κ w q size came D) :
    Calls Try.prog 20 #[.pointer (some ⟨q, 0, none⟩)] w (Ret fun v w' => v = .int .i64 came ∧ w' = w) := by
  obtain ⟨p, hd, hc⟩ := h.cells
  apply enter20
  apply R_in
  simp (maxSteps := 600000) (disch := omega) only [F20, ↓sy1, sy2, sy3, readOK, sy5, sy6, Nat.reduceEqDiff, ↓reduceIte, sy7, sy8, sy9, sya, oneOf, syb, syc, Nat.reduceAdd, Nat.reduceMul, syd, sye, syf, syg, syh, reduceCtorEq, hc (Keep.refl _ _)]
  exact R_out trivial
theorem lread_spec {G : Gh} {κ : Nat} {w : World} {q size came n : Nat} {D : Dsk} (h : LogAt G κ w q size came D) (hn : n < D.first.length - size - 1) :
    Calls Try.prog 15 #[.pointer (some ⟨q, 0, none⟩), .int .i64 n] w (Ret fun v w' => ∃ u, v = .tuple #[u, .int .i64 0] ∧ w'.ownsRow w.heap.size 5 1 u 512 (bs (D.image[size + 1 + n]'(by rw [D.image_length]; omega))) ∧ Grow w w') := by
  obtain ⟨p, hd, hc⟩ := h.cells
  have hmost := hd.ok.most
  apply enter15
  apply R_in
  simp (maxSteps := 600000) (disch := omega) only [F15, ↓sy1, sy2, sy3, readOK, sy5, sy6, Nat.reduceEqDiff, ↓reduceIte, sy7, sy8, sy9, sya, oneOf, syb, syc, Nat.reduceAdd, Nat.reduceMul, syd, sye, syf, syg, syh, reduceCtorEq, show ¬ ((n : Int) < 0) from by omega, decide_false]
  refine call0 (pages_spec h) ?_
  rintro _ w1 ⟨rfl, hg1⟩
  simp (maxSteps := 600000) (disch := omega) only [↓sy1, sy2, sy3, readOK, sy5, sy6, Nat.reduceEqDiff, ↓reduceIte, sy7, sy8, sy9, sya, oneOf, syb, syc, Nat.reduceAdd, Nat.reduceMul, syd, sye, syf, syg, syh, reduceCtorEq, show ¬ (((D.first.length - size - 1 : Nat) : Int) ≤ (n : Int)) from by omega, decide_false]
  refine draw15_0 (fun _ => False) ?_
  have hgd : Grow w w1.drew := hg1.drew
  have hsz := hgd.size
  generalize w1.drew = w2 at hgd hsz ⊢
  simp (maxSteps := 600000) (disch := omega) only [PL15_0, ↓sy1, sy2, sy3, readOK, sy5, sy6, Nat.reduceEqDiff, ↓reduceIte, sy7, sy8, sy9, sya, oneOf, syb, syc, Nat.reduceAdd, Nat.reduceMul, syd, sye, syf, syg, syh, reduceCtorEq, hc hgd]
  rw [show (size : Int) + 1 + (n : Int) = ((size + 1 + n : Nat) : Int) from by omega]
  refine call0 (read_spec (hd.grow hgd) (n := size + 1 + n) (by omega)) ?_
  rintro _ w3 ⟨u, rfl, hu, hg3⟩
  simp (maxSteps := 600000) (disch := omega) only [↓sy1, sy2, sy3, readOK, sy5, sy6, Nat.reduceEqDiff, ↓reduceIte, sy7, sy8, sy9, sya, oneOf, syb, syc, Nat.reduceAdd, Nat.reduceMul, syd, sye, syf, syg, syh, reduceCtorEq]
  exact R_out ⟨u, rfl, own_base hu hsz, hgd.trans hg3⟩
theorem lread_bad {G : Gh} {κ : Nat} {w : World} {q size came : Nat} {n : Int} {D : Dsk} (h : LogAt G κ w q size came D) (hn : n < 0 ∨ ((D.first.length - size - 1 : Nat) : Int) ≤ n) :
    Calls Try.prog 15 #[.pointer (some ⟨q, 0, none⟩), .int .i64 n] w (Ret fun v w' => v = .tuple #[.slice none 0 0, .int .i64 2] ∧ Grow w w') := by
  apply enter15
  apply R_in
  by_cases h0 : n < 0
  · simp (maxSteps := 600000) (disch := omega) only [F15, ↓sy1, sy2, sy3, readOK, sy5, sy6, Nat.reduceEqDiff, ↓reduceIte, sy7, sy8, sy9, sya, oneOf, syb, syc, Nat.reduceAdd, Nat.reduceMul, syd, sye, syf, syg, syh, reduceCtorEq, h0, decide_true]
    exact R_out (Keep.refl _ _)
  · simp (maxSteps := 600000) (disch := omega) only [F15, ↓sy1, sy2, sy3, readOK, sy5, sy6, Nat.reduceEqDiff, ↓reduceIte, sy7, sy8, sy9, sya, oneOf, syb, syc, Nat.reduceAdd, Nat.reduceMul, syd, sye, syf, syg, syh, reduceCtorEq, h0, decide_false]
    refine call0 (pages_spec h) ?_
    rintro _ w1 ⟨rfl, hg1⟩
    simp (maxSteps := 600000) (disch := omega) only [↓sy1, sy2, sy3, readOK, sy5, sy6, Nat.reduceEqDiff, ↓reduceIte, sy7, sy8, sy9, sya, oneOf, syb, syc, Nat.reduceAdd, Nat.reduceMul, syd, sye, syf, syg, syh, reduceCtorEq, show (((D.first.length - size - 1 : Nat) : Int) ≤ n) from by omega, decide_true]
    exact R_out hg1
theorem ldisk_spec {G : Gh} {κ : Nat} {w : World} {q size came : Nat} {D : Dsk} (κ' : Nat) (h : LogAt G κ w q size came D) :
    Calls Try.prog 17 #[.pointer (some ⟨q, 0, none⟩)] w (Ret fun v w' => ∃ p G', v = .pointer (some ⟨p, 0, none⟩) ∧ w.heap.size ≤ p ∧ DiskAt G' κ' w' p D ∧ Ext0 G w G' w') := by
  obtain ⟨p, hd, hc⟩ := h.cells
  apply enter17
  apply R_in
  simp (maxSteps := 600000) (disch := omega) only [F17, ↓sy1, sy2, sy3, readOK, sy5, sy6, Nat.reduceEqDiff, ↓reduceIte, sy7, sy8, sy9, sya, oneOf, syb, syc, Nat.reduceAdd, Nat.reduceMul, syd, sye, syf, syg, syh, reduceCtorEq, hc (Keep.refl _ _)]
  refine call0 (fork_spec κ' hd) ?_
  rintro _ w1 ⟨p', G', rfl, hp, hd', hx⟩
  simp (maxSteps := 600000) (disch := omega) only [↓sy1, sy2, sy3, readOK, sy5, sy6, Nat.reduceEqDiff, ↓reduceIte, sy7, sy8, sy9, sya, oneOf, syb, syc, Nat.reduceAdd, Nat.reduceMul, syd, sye, syf, syg, syh, reduceCtorEq]
  exact R_out ⟨p', G', rfl, hp, hd', hx⟩
theorem lread_nil {w : World} {n : Int} : Calls Try.prog 15 #[.pointer none, .int .i64 n] w (Ret fun v w' => v = .tuple #[.slice none 0 0, .int .i64 1] ∧ w' = w) := by
  apply enter15
  apply R_in
  simp (maxSteps := 600000) (disch := omega) only [F15, ↓sy1, sy2, sy3, readOK, sy5, sy6, Nat.reduceEqDiff, ↓reduceIte, sy7, sy8, sy9, sya, oneOf, syb, syc, Nat.reduceAdd, Nat.reduceMul, syd, sye, syf, syg, syh, reduceCtorEq]
  exact R_out trivial
theorem pages_nil {w : World} : Calls Try.prog 21 #[.pointer none] w (Ret fun v w' => v = .int .i64 0 ∧ w' = w) := by
  apply enter21
  apply R_in
  simp (maxSteps := 600000) (disch := omega) only [F21, ↓sy1, sy2, sy3, readOK, sy5, sy6, Nat.reduceEqDiff, ↓reduceIte, sy7, sy8, sy9, sya, oneOf, syb, syc, Nat.reduceAdd, Nat.reduceMul, syd, sye, syf, syg, syh, reduceCtorEq]
  exact R_out trivial
theorem capacity_nil {w : World} : Calls Try.prog 22 #[.pointer none] w (Ret fun v w' => v = .int .i64 0 ∧ w' = w) := by
  apply enter22
  apply R_in
  simp (maxSteps := 600000) (disch := omega) only [F22, ↓sy1, sy2, sy3, readOK, sy5, sy6, Nat.reduceEqDiff, ↓reduceIte, sy7, sy8, sy9, sya, oneOf, syb, syc, Nat.reduceAdd, Nat.reduceMul, syd, sye, syf, syg, syh, reduceCtorEq]
  exact R_out trivial
theorem came_nil {w : World} : Calls Try.prog 20 #[.pointer none] w (Ret fun v w' => v = .int .i64 0 ∧ w' = w) := by
  apply enter20
  apply R_in
  simp (maxSteps := 600000) (disch := omega) only [F20, ↓sy1, sy2, sy3, readOK, sy5, sy6, Nat.reduceEqDiff, ↓reduceIte, sy7, sy8, sy9, sya, oneOf, syb, syc, Nat.reduceAdd, Nat.reduceMul, syd, sye, syf, syg, syh, reduceCtorEq]
  exact R_out trivial
theorem ldisk_nil {w : World} : Calls Try.prog 17 #[.pointer none] w (Ret fun v w' => v = .pointer none ∧ w' = w) := by
  apply enter17
  apply R_in
  simp (maxSteps := 600000) (disch := omega) only [F17, ↓sy1, sy2, sy3, readOK, sy5, sy6, Nat.reduceEqDiff, ↓reduceIte, sy7, sy8, sy9, sya, oneOf, syb, syc, Nat.reduceAdd, Nat.reduceMul, syd, sye, syf, syg, syh, reduceCtorEq]
  exact R_out trivial
theorem open_nil {w : World} {n : Int} : Calls Try.prog 16 #[.pointer none, .int .i64 n] w (Ret fun v w' => v = .tuple #[.pointer none, .int .i64 1] ∧ w' = w) := by
  apply enter16
  apply R_in
  simp (maxSteps := 600000) (disch := omega) only [F16, ↓sy1, sy2, sy3, readOK, sy5, sy6, Nat.reduceEqDiff, ↓reduceIte, sy7, sy8, sy9, sya, oneOf, syb, syc, Nat.reduceAdd, Nat.reduceMul, syd, sye, syf, syg, syh, reduceCtorEq]
  exact R_out trivial
end Go.Proofs.Ytneehlkofcdhoaa
