/- Do both disks stand alike? They do. -/
import Derived.Test.YtaeejceljgjdkaaRr
namespace Go.Proofs.Ytaeejceljgjdkaa
open Go
set_option linter.unusedSimpArgs false
open Go.RowKit (intOf)
theorem same01_spec {G G' : Gh} {κ κ' : Nat} {w : World} {p q : Nat} {D : Dsk} (h : DiskAt G κ w p D) (h' : RefAt G' κ' w q D) :
    Calls Try.prog 29 #[.pointer (some ⟨p, 0, none⟩), .pointer (some ⟨q, 0, none⟩)] w (Ret fun v w' => v = .bool true ∧ Grow w w') := by
  have hok := h.ok
  have hmost := hok.most
  have hwl := D.waiting_length
  have hwr := D.writes_length
  have hil := D.image_length
  have hsl := D.safe_length
  apply enter29
  apply R_in
  simp (maxSteps := 1000000) (disch := omega) only [F29, ↓sy1, sy2, sy3, readOK, implies_true, forall_const, Nat.reduceEqDiff, ↓reduceIte, Option.map_some, Option.map_none, List.map_cons, List.map_nil, oneOf, if_true, if_false, Nat.reduceAdd, Nat.reduceMul, Option.isNone_some, Option.isNone_none, List.getElem?_toArray, List.getElem?_cons_zero, List.getElem?_cons_succ, reduceCtorEq]
  refine call0 (waiting_spec h) ?_
  rintro _ w1 ⟨a, b, rfl, ha, hb, _, hg1⟩
  simp (maxSteps := 1000000) (disch := omega) only [↓sy1, sy2, sy3, readOK, implies_true, forall_const, Nat.reduceEqDiff, ↓reduceIte, Option.map_some, Option.map_none, List.map_cons, List.map_nil, oneOf, if_true, if_false, Nat.reduceAdd, Nat.reduceMul, Option.isNone_some, Option.isNone_none, List.getElem?_toArray, List.getElem?_cons_zero, List.getElem?_cons_succ, reduceCtorEq]
  refine call0 (rwaiting_spec (h'.grow hg1)) ?_
  rintro _ w2 ⟨x, y, rfl, hx, hy, hg2⟩
  simp (maxSteps := 1000000) (disch := omega) only [↓sy1, sy2, sy3, readOK, implies_true, forall_const, Nat.reduceEqDiff, ↓reduceIte, Option.map_some, Option.map_none, List.map_cons, List.map_nil, oneOf, if_true, if_false, Nat.reduceAdd, Nat.reduceMul, Option.isNone_some, Option.isNone_none, List.getElem?_toArray, List.getElem?_cons_zero, List.getElem?_cons_succ, reduceCtorEq]
  refine call0 (sameInts_spec a x _ _ w2 ((Has.own ha).grow hg2) hx (by simp; omega)) ?_
  rintro _ w3 ⟨rfl, hg3⟩
  simp (maxSteps := 1000000) (disch := omega) only [↓sy1, sy2, sy3, readOK, implies_true, forall_const, Nat.reduceEqDiff, ↓reduceIte, Option.map_some, Option.map_none, List.map_cons, List.map_nil, oneOf, if_true, if_false, Nat.reduceAdd, Nat.reduceMul, Option.isNone_some, Option.isNone_none, List.getElem?_toArray, List.getElem?_cons_zero, List.getElem?_cons_succ, reduceCtorEq, decide_true]
  refine call0 (sameInts_spec b y _ _ w3 ((Has.own hb).grow (hg2.trans hg3)) (hy.grow hg3) (by simp; omega)) ?_
  rintro _ w4 ⟨rfl, hg4⟩
  have hg14 := (hg2.trans hg3).trans hg4
  have hd4 := h.grow (hg1.trans hg14)
  have hr4 := h'.grow (hg1.trans hg14)
  simp (maxSteps := 1000000) (disch := omega) only [↓sy1, sy2, sy3, readOK, implies_true, forall_const, Nat.reduceEqDiff, ↓reduceIte, Option.map_some, Option.map_none, List.map_cons, List.map_nil, oneOf, if_true, if_false, Nat.reduceAdd, Nat.reduceMul, Option.isNone_some, Option.isNone_none, List.getElem?_toArray, List.getElem?_cons_zero, List.getElem?_cons_succ, reduceCtorEq, decide_true]
  refine call0 (ops_spec hd4) ?_
  rintro _ w5 ⟨rfl, rfl⟩
  simp (maxSteps := 1000000) (disch := omega) only [↓sy1, sy2, sy3, readOK, implies_true, forall_const, Nat.reduceEqDiff, ↓reduceIte, Option.map_some, Option.map_none, List.map_cons, List.map_nil, oneOf, if_true, if_false, Nat.reduceAdd, Nat.reduceMul, Option.isNone_some, Option.isNone_none, List.getElem?_toArray, List.getElem?_cons_zero, List.getElem?_cons_succ, reduceCtorEq]
  refine call0 (rops_spec hr4) ?_
  rintro _ w6 ⟨rfl, rfl⟩
  simp (maxSteps := 1000000) (disch := omega) only [↓sy1, sy2, sy3, readOK, implies_true, forall_const, Nat.reduceEqDiff, ↓reduceIte, Option.map_some, Option.map_none, List.map_cons, List.map_nil, oneOf, if_true, if_false, Nat.reduceAdd, Nat.reduceMul, Option.isNone_some, Option.isNone_none, List.getElem?_toArray, List.getElem?_cons_zero, List.getElem?_cons_succ, reduceCtorEq, decide_true]
  refine call0 (sectors_spec hd4) ?_
  rintro _ w7 ⟨rfl, rfl⟩
  simp (maxSteps := 1000000) (disch := omega) only [↓sy1, sy2, sy3, readOK, implies_true, forall_const, Nat.reduceEqDiff, ↓reduceIte, Option.map_some, Option.map_none, List.map_cons, List.map_nil, oneOf, if_true, if_false, Nat.reduceAdd, Nat.reduceMul, Option.isNone_some, Option.isNone_none, List.getElem?_toArray, List.getElem?_cons_zero, List.getElem?_cons_succ, reduceCtorEq]
  refine call0 (rsectors_spec hr4) ?_
  rintro _ w8 ⟨rfl, rfl⟩
  simp (maxSteps := 1000000) (disch := omega) only [↓sy1, sy2, sy3, readOK, implies_true, forall_const, Nat.reduceEqDiff, ↓reduceIte, Option.map_some, Option.map_none, List.map_cons, List.map_nil, oneOf, if_true, if_false, Nat.reduceAdd, Nat.reduceMul, Option.isNone_some, Option.isNone_none, List.getElem?_toArray, List.getElem?_cons_zero, List.getElem?_cons_succ, reduceCtorEq, decide_true]
  refine call0 (image_spec hd4) ?_
  rintro i1 w9 ⟨hi1, hg9⟩
  simp (maxSteps := 1000000) (disch := omega) only [↓sy1, sy2, sy3, readOK, implies_true, forall_const, Nat.reduceEqDiff, ↓reduceIte, Option.map_some, Option.map_none, List.map_cons, List.map_nil, oneOf, if_true, if_false, Nat.reduceAdd, Nat.reduceMul, Option.isNone_some, Option.isNone_none, List.getElem?_toArray, List.getElem?_cons_zero, List.getElem?_cons_succ, reduceCtorEq]
  refine call0 (rimage_spec (hr4.grow hg9)) ?_
  rintro i2 w10 ⟨hi2, hg10⟩
  simp (maxSteps := 1000000) (disch := omega) only [↓sy1, sy2, sy3, readOK, implies_true, forall_const, Nat.reduceEqDiff, ↓reduceIte, Option.map_some, Option.map_none, List.map_cons, List.map_nil, oneOf, if_true, if_false, Nat.reduceAdd, Nat.reduceMul, Option.isNone_some, Option.isNone_none, List.getElem?_toArray, List.getElem?_cons_zero, List.getElem?_cons_succ, reduceCtorEq]
  refine call0 (sameAll_spec i1 i2 _ _ w10 ((hi1.grow hg10).has) hi2.has (by omega) (.of512 hok.image)) ?_
  rintro _ w11 ⟨rfl, hg11⟩
  have hg811 := (hg9.trans hg10).trans hg11
  simp (maxSteps := 1000000) (disch := omega) only [↓sy1, sy2, sy3, readOK, implies_true, forall_const, Nat.reduceEqDiff, ↓reduceIte, Option.map_some, Option.map_none, List.map_cons, List.map_nil, oneOf, if_true, if_false, Nat.reduceAdd, Nat.reduceMul, Option.isNone_some, Option.isNone_none, List.getElem?_toArray, List.getElem?_cons_zero, List.getElem?_cons_succ, reduceCtorEq, decide_true]
  refine call0 (safe_spec (hd4.grow hg811)) ?_
  rintro s1 w12 ⟨hs1, hg12⟩
  simp (maxSteps := 1000000) (disch := omega) only [↓sy1, sy2, sy3, readOK, implies_true, forall_const, Nat.reduceEqDiff, ↓reduceIte, Option.map_some, Option.map_none, List.map_cons, List.map_nil, oneOf, if_true, if_false, Nat.reduceAdd, Nat.reduceMul, Option.isNone_some, Option.isNone_none, List.getElem?_toArray, List.getElem?_cons_zero, List.getElem?_cons_succ, reduceCtorEq]
  refine call0 (rsafe_spec ((hr4.grow hg811).grow hg12)) ?_
  rintro s2 w13 ⟨hs2, hg13⟩
  simp (maxSteps := 1000000) (disch := omega) only [↓sy1, sy2, sy3, readOK, implies_true, forall_const, Nat.reduceEqDiff, ↓reduceIte, Option.map_some, Option.map_none, List.map_cons, List.map_nil, oneOf, if_true, if_false, Nat.reduceAdd, Nat.reduceMul, Option.isNone_some, Option.isNone_none, List.getElem?_toArray, List.getElem?_cons_zero, List.getElem?_cons_succ, reduceCtorEq]
  refine call0 (sameAll_spec s1 s2 _ _ w13 ((hs1.grow hg13).has) hs2.has (by omega) (.of512 hok.safe)) ?_
  rintro _ w14 ⟨rfl, hg14'⟩
  simp (maxSteps := 1000000) (disch := omega) only [↓sy1, sy2, sy3, readOK, implies_true, forall_const, Nat.reduceEqDiff, ↓reduceIte, Option.map_some, Option.map_none, List.map_cons, List.map_nil, oneOf, if_true, if_false, Nat.reduceAdd, Nat.reduceMul, Option.isNone_some, Option.isNone_none, List.getElem?_toArray, List.getElem?_cons_zero, List.getElem?_cons_succ, reduceCtorEq, decide_true]
  exact R_out (((((hg1.trans hg14).trans hg811).trans hg12).trans hg13).trans hg14')
theorem rwaiting_nil {w : World} : Calls Try.prog 53 #[.pointer none] w (Ret fun v w' => v = .tuple #[.slice none 0 0, .slice none 0 0] ∧ w' = w) := by
  apply enter53
  apply R_in
  simp (disch := omega) only [F53, ↓sy1, sy2, sy3, readOK, implies_true, forall_const, Nat.reduceEqDiff, ↓reduceIte, Option.map_some, Option.map_none, List.map_cons, List.map_nil, oneOf, if_true, if_false, Nat.reduceAdd, Nat.reduceMul, Option.isNone_some, Option.isNone_none, List.getElem?_toArray, List.getElem?_cons_zero, List.getElem?_cons_succ, reduceCtorEq]
  refine loop_rule (fun e w' => e 0 = .pointer none ∧ e 4 = .slice none 0 0 ∧ e 5 = .slice none 0 0 ∧ w' = w) (fun _ _ => 0) ⟨by simp [upd, updO, ev], by simp [upd, updO, ev], by simp [upd, updO, ev], rfl⟩ ?_
  rintro e w' ⟨e0, e4, e5, rfl⟩
  simp (disch := omega) only [F53_L0, ↓sy1, sy2, sy3, readOK, implies_true, forall_const, Nat.reduceEqDiff, ↓reduceIte, Option.map_some, Option.map_none, List.map_cons, List.map_nil, oneOf, if_true, if_false, Nat.reduceAdd, Nat.reduceMul, Option.isNone_some, Option.isNone_none, List.getElem?_toArray, List.getElem?_cons_zero, List.getElem?_cons_succ, reduceCtorEq, e0, e4, e5]
  exact R_out trivial
theorem rops_nil {w : World} : Calls Try.prog 54 #[.pointer none] w (Ret fun v w' => v = .int .i64 0 ∧ w' = w) := by
  apply enter54
  apply R_in
  simp (disch := omega) only [F54, ↓sy1, sy2, sy3, readOK, implies_true, forall_const, Nat.reduceEqDiff, ↓reduceIte, Option.map_some, Option.map_none, List.map_cons, List.map_nil, oneOf, if_true, if_false, Nat.reduceAdd, Nat.reduceMul, Option.isNone_some, Option.isNone_none, List.getElem?_toArray, List.getElem?_cons_zero, List.getElem?_cons_succ, reduceCtorEq]
  exact R_out trivial
theorem rsectors_nil {w : World} : Calls Try.prog 55 #[.pointer none] w (Ret fun v w' => v = .int .i64 0 ∧ w' = w) := by
  apply enter55
  apply R_in
  simp (disch := omega) only [F55, ↓sy1, sy2, sy3, readOK, implies_true, forall_const, Nat.reduceEqDiff, ↓reduceIte, Option.map_some, Option.map_none, List.map_cons, List.map_nil, oneOf, if_true, if_false, Nat.reduceAdd, Nat.reduceMul, Option.isNone_some, Option.isNone_none, List.getElem?_toArray, List.getElem?_cons_zero, List.getElem?_cons_succ, reduceCtorEq]
  exact R_out trivial
theorem rimage_nil {w : World} : Calls Try.prog 32 #[.pointer none] w (Ret fun v w' => v = .slice none 0 0 ∧ w' = w) := by
  apply enter32
  apply R_in
  simp (disch := omega) only [F32, ↓sy1, sy2, sy3, readOK, implies_true, forall_const, Nat.reduceEqDiff, ↓reduceIte, Option.map_some, Option.map_none, List.map_cons, List.map_nil, oneOf, if_true, if_false, Nat.reduceAdd, Nat.reduceMul, Option.isNone_some, Option.isNone_none, List.getElem?_toArray, List.getElem?_cons_zero, List.getElem?_cons_succ, reduceCtorEq]
  exact R_out trivial
theorem rsafe_nil {w : World} : Calls Try.prog 56 #[.pointer none] w (Ret fun v w' => v = .slice none 0 0 ∧ w' = w) := by
  apply enter56
  apply R_in
  simp (disch := omega) only [F56, ↓sy1, sy2, sy3, readOK, implies_true, forall_const, Nat.reduceEqDiff, ↓reduceIte, Option.map_some, Option.map_none, List.map_cons, List.map_nil, oneOf, if_true, if_false, Nat.reduceAdd, Nat.reduceMul, Option.isNone_some, Option.isNone_none, List.getElem?_toArray, List.getElem?_cons_zero, List.getElem?_cons_succ, reduceCtorEq]
  exact R_out trivial
theorem rflush_nil {w : World} : Calls Try.prog 40 #[.pointer none] w (Ret fun v w' => v = .int .i64 1 ∧ w' = w) := by
  apply enter40
  apply R_in
  simp (disch := omega) only [F40, ↓sy1, sy2, sy3, readOK, implies_true, forall_const, Nat.reduceEqDiff, ↓reduceIte, Option.map_some, Option.map_none, List.map_cons, List.map_nil, oneOf, if_true, if_false, Nat.reduceAdd, Nat.reduceMul, Option.isNone_some, Option.isNone_none, List.getElem?_toArray, List.getElem?_cons_zero, List.getElem?_cons_succ, reduceCtorEq]
  exact R_out trivial
theorem rwrite_nil {w : World} {n : Int} {b : Value} : Calls Try.prog 41 #[.pointer none, .int .i64 n, b] w (Ret fun v w' => v = .int .i64 1 ∧ w' = w) := by
  apply enter41
  apply R_in
  simp (disch := omega) only [F41, ↓sy1, sy2, sy3, readOK, implies_true, forall_const, Nat.reduceEqDiff, ↓reduceIte, Option.map_some, Option.map_none, List.map_cons, List.map_nil, oneOf, if_true, if_false, Nat.reduceAdd, Nat.reduceMul, Option.isNone_some, Option.isNone_none, List.getElem?_toArray, List.getElem?_cons_zero, List.getElem?_cons_succ, reduceCtorEq]
  refine call0 look_nil ?_
  rintro _ w1 ⟨rfl, rfl⟩
  simp (disch := omega) only [↓sy1, sy2, sy3, readOK, implies_true, forall_const, Nat.reduceEqDiff, ↓reduceIte, Option.map_some, Option.map_none, List.map_cons, List.map_nil, oneOf, if_true, if_false, Nat.reduceAdd, Nat.reduceMul, Option.isNone_some, Option.isNone_none, List.getElem?_toArray, List.getElem?_cons_zero, List.getElem?_cons_succ, reduceCtorEq, show ¬ ((1 : Int) = 0) from by omega, decide_false]
  exact R_out trivial
theorem HasR.nil (w : World) : HasR w (.slice none 0 0) [] := ⟨[], Has.nil 1 w, trivial⟩
theorem same01_nil {w : World} : Calls Try.prog 29 #[.pointer none, .pointer none] w (Ret fun v w' => v = .bool true ∧ Grow w w') := by
  have hs : Small [] := fun b hb => by cases hb
  apply enter29
  apply R_in
  simp (maxSteps := 1000000) (disch := omega) only [F29, ↓sy1, sy2, sy3, readOK, implies_true, forall_const, Nat.reduceEqDiff, ↓reduceIte, Option.map_some, Option.map_none, List.map_cons, List.map_nil, oneOf, if_true, if_false, Nat.reduceAdd, Nat.reduceMul, Option.isNone_some, Option.isNone_none, List.getElem?_toArray, List.getElem?_cons_zero, List.getElem?_cons_succ, reduceCtorEq]
  refine call0 waiting_nil ?_
  rintro _ w1 ⟨rfl, rfl⟩
  simp (maxSteps := 1000000) (disch := omega) only [↓sy1, sy2, sy3, readOK, implies_true, forall_const, Nat.reduceEqDiff, ↓reduceIte, Option.map_some, Option.map_none, List.map_cons, List.map_nil, oneOf, if_true, if_false, Nat.reduceAdd, Nat.reduceMul, Option.isNone_some, Option.isNone_none, List.getElem?_toArray, List.getElem?_cons_zero, List.getElem?_cons_succ, reduceCtorEq]
  refine call0 rwaiting_nil ?_
  rintro _ w2 ⟨rfl, rfl⟩
  simp (maxSteps := 1000000) (disch := omega) only [↓sy1, sy2, sy3, readOK, implies_true, forall_const, Nat.reduceEqDiff, ↓reduceIte, Option.map_some, Option.map_none, List.map_cons, List.map_nil, oneOf, if_true, if_false, Nat.reduceAdd, Nat.reduceMul, Option.isNone_some, Option.isNone_none, List.getElem?_toArray, List.getElem?_cons_zero, List.getElem?_cons_succ, reduceCtorEq]
  refine call0 (sameInts_spec _ _ [] [] w2 (Has.nil 1 w2) (Has.nil 1 w2) (by simp)) ?_
  rintro _ w3 ⟨rfl, hg3⟩
  simp (maxSteps := 1000000) (disch := omega) only [↓sy1, sy2, sy3, readOK, implies_true, forall_const, Nat.reduceEqDiff, ↓reduceIte, Option.map_some, Option.map_none, List.map_cons, List.map_nil, oneOf, if_true, if_false, Nat.reduceAdd, Nat.reduceMul, Option.isNone_some, Option.isNone_none, List.getElem?_toArray, List.getElem?_cons_zero, List.getElem?_cons_succ, reduceCtorEq, decide_true]
  refine call0 (sameInts_spec _ _ [] [] w3 (Has.nil 1 w3) (Has.nil 1 w3) (by simp)) ?_
  rintro _ w4 ⟨rfl, hg4⟩
  simp (maxSteps := 1000000) (disch := omega) only [↓sy1, sy2, sy3, readOK, implies_true, forall_const, Nat.reduceEqDiff, ↓reduceIte, Option.map_some, Option.map_none, List.map_cons, List.map_nil, oneOf, if_true, if_false, Nat.reduceAdd, Nat.reduceMul, Option.isNone_some, Option.isNone_none, List.getElem?_toArray, List.getElem?_cons_zero, List.getElem?_cons_succ, reduceCtorEq, decide_true]
  refine call0 ops_nil ?_
  rintro _ w5 ⟨rfl, rfl⟩
  simp (maxSteps := 1000000) (disch := omega) only [↓sy1, sy2, sy3, readOK, implies_true, forall_const, Nat.reduceEqDiff, ↓reduceIte, Option.map_some, Option.map_none, List.map_cons, List.map_nil, oneOf, if_true, if_false, Nat.reduceAdd, Nat.reduceMul, Option.isNone_some, Option.isNone_none, List.getElem?_toArray, List.getElem?_cons_zero, List.getElem?_cons_succ, reduceCtorEq]
  refine call0 rops_nil ?_
  rintro _ w6 ⟨rfl, rfl⟩
  simp (maxSteps := 1000000) (disch := omega) only [↓sy1, sy2, sy3, readOK, implies_true, forall_const, Nat.reduceEqDiff, ↓reduceIte, Option.map_some, Option.map_none, List.map_cons, List.map_nil, oneOf, if_true, if_false, Nat.reduceAdd, Nat.reduceMul, Option.isNone_some, Option.isNone_none, List.getElem?_toArray, List.getElem?_cons_zero, List.getElem?_cons_succ, reduceCtorEq, decide_true]
  refine call0 sectors_nil ?_
  rintro _ w7 ⟨rfl, rfl⟩
  simp (maxSteps := 1000000) (disch := omega) only [↓sy1, sy2, sy3, readOK, implies_true, forall_const, Nat.reduceEqDiff, ↓reduceIte, Option.map_some, Option.map_none, List.map_cons, List.map_nil, oneOf, if_true, if_false, Nat.reduceAdd, Nat.reduceMul, Option.isNone_some, Option.isNone_none, List.getElem?_toArray, List.getElem?_cons_zero, List.getElem?_cons_succ, reduceCtorEq]
  refine call0 rsectors_nil ?_
  rintro _ w8 ⟨rfl, rfl⟩
  simp (maxSteps := 1000000) (disch := omega) only [↓sy1, sy2, sy3, readOK, implies_true, forall_const, Nat.reduceEqDiff, ↓reduceIte, Option.map_some, Option.map_none, List.map_cons, List.map_nil, oneOf, if_true, if_false, Nat.reduceAdd, Nat.reduceMul, Option.isNone_some, Option.isNone_none, List.getElem?_toArray, List.getElem?_cons_zero, List.getElem?_cons_succ, reduceCtorEq, decide_true]
  refine call0 image_nil ?_
  rintro _ w9 ⟨rfl, rfl⟩
  simp (maxSteps := 1000000) (disch := omega) only [↓sy1, sy2, sy3, readOK, implies_true, forall_const, Nat.reduceEqDiff, ↓reduceIte, Option.map_some, Option.map_none, List.map_cons, List.map_nil, oneOf, if_true, if_false, Nat.reduceAdd, Nat.reduceMul, Option.isNone_some, Option.isNone_none, List.getElem?_toArray, List.getElem?_cons_zero, List.getElem?_cons_succ, reduceCtorEq]
  refine call0 rimage_nil ?_
  rintro _ w10 ⟨rfl, rfl⟩
  simp (maxSteps := 1000000) (disch := omega) only [↓sy1, sy2, sy3, readOK, implies_true, forall_const, Nat.reduceEqDiff, ↓reduceIte, Option.map_some, Option.map_none, List.map_cons, List.map_nil, oneOf, if_true, if_false, Nat.reduceAdd, Nat.reduceMul, Option.isNone_some, Option.isNone_none, List.getElem?_toArray, List.getElem?_cons_zero, List.getElem?_cons_succ, reduceCtorEq]
  refine call0 (sameAll_spec _ _ [] [] w10 (HasR.nil w10) (HasR.nil w10) (by simp) hs) ?_
  rintro _ w11 ⟨rfl, hg11⟩
  simp (maxSteps := 1000000) (disch := omega) only [↓sy1, sy2, sy3, readOK, implies_true, forall_const, Nat.reduceEqDiff, ↓reduceIte, Option.map_some, Option.map_none, List.map_cons, List.map_nil, oneOf, if_true, if_false, Nat.reduceAdd, Nat.reduceMul, Option.isNone_some, Option.isNone_none, List.getElem?_toArray, List.getElem?_cons_zero, List.getElem?_cons_succ, reduceCtorEq, decide_true]
  refine call0 safe_nil ?_
  rintro _ w12 ⟨rfl, rfl⟩
  simp (maxSteps := 1000000) (disch := omega) only [↓sy1, sy2, sy3, readOK, implies_true, forall_const, Nat.reduceEqDiff, ↓reduceIte, Option.map_some, Option.map_none, List.map_cons, List.map_nil, oneOf, if_true, if_false, Nat.reduceAdd, Nat.reduceMul, Option.isNone_some, Option.isNone_none, List.getElem?_toArray, List.getElem?_cons_zero, List.getElem?_cons_succ, reduceCtorEq]
  refine call0 rsafe_nil ?_
  rintro _ w13 ⟨rfl, rfl⟩
  simp (maxSteps := 1000000) (disch := omega) only [↓sy1, sy2, sy3, readOK, implies_true, forall_const, Nat.reduceEqDiff, ↓reduceIte, Option.map_some, Option.map_none, List.map_cons, List.map_nil, oneOf, if_true, if_false, Nat.reduceAdd, Nat.reduceMul, Option.isNone_some, Option.isNone_none, List.getElem?_toArray, List.getElem?_cons_zero, List.getElem?_cons_succ, reduceCtorEq]
  refine call0 (sameAll_spec _ _ [] [] w13 (HasR.nil w13) (HasR.nil w13) (by simp) hs) ?_
  rintro _ w14 ⟨rfl, hg14⟩
  simp (maxSteps := 1000000) (disch := omega) only [↓sy1, sy2, sy3, readOK, implies_true, forall_const, Nat.reduceEqDiff, ↓reduceIte, Option.map_some, Option.map_none, List.map_cons, List.map_nil, oneOf, if_true, if_false, Nat.reduceAdd, Nat.reduceMul, Option.isNone_some, Option.isNone_none, List.getElem?_toArray, List.getElem?_cons_zero, List.getElem?_cons_succ, reduceCtorEq, decide_true]
  exact R_out (((hg3.trans hg4).trans hg11).trans hg14)
/-- No disk, whatever the deeds. -/
theorem play_nil {w : World} {lv : Value} {l : List Deed} {n : Int} (hv : HasD w lv l) (hn : n < 1 ∨ 4096 < n) :
    Calls Try.prog 13 #[.int .i64 n, lv] w (Ret fun v w' => v = .tuple #[.pointer none, .pointer none, .bool true] ∧ Grow w w') := by
  apply enter13
  apply R_in
  simp (maxSteps := 1000000) (disch := omega) only [F13, ↓sy1, sy2, sy3, readOK, implies_true, forall_const, Nat.reduceEqDiff, ↓reduceIte, Option.map_some, Option.map_none, List.map_cons, List.map_nil, oneOf, if_true, if_false, Nat.reduceAdd, Nat.reduceMul, Option.isNone_some, Option.isNone_none, List.getElem?_toArray, List.getElem?_cons_zero, List.getElem?_cons_succ, reduceCtorEq]
  refine call0 (new_bad hn) ?_
  rintro _ w1 ⟨rfl, rfl⟩
  simp (maxSteps := 1000000) (disch := omega) only [↓sy1, sy2, sy3, readOK, implies_true, forall_const, Nat.reduceEqDiff, ↓reduceIte, Option.map_some, Option.map_none, List.map_cons, List.map_nil, oneOf, if_true, if_false, Nat.reduceAdd, Nat.reduceMul, Option.isNone_some, Option.isNone_none, List.getElem?_toArray, List.getElem?_cons_zero, List.getElem?_cons_succ, reduceCtorEq]
  refine call0 (rnew_bad hn) ?_
  rintro _ w2 ⟨rfl, rfl⟩
  simp (maxSteps := 1000000) (disch := omega) only [↓sy1, sy2, sy3, readOK, implies_true, forall_const, Nat.reduceEqDiff, ↓reduceIte, Option.map_some, Option.map_none, List.map_cons, List.map_nil, oneOf, if_true, if_false, Nat.reduceAdd, Nat.reduceMul, Option.isNone_some, Option.isNone_none, List.getElem?_toArray, List.getElem?_cons_zero, List.getElem?_cons_succ, reduceCtorEq]
  refine loop_rule (fun e w' => ∃ i : Nat, i ≤ l.length ∧ i ≤ 40 ∧ e 11 = .int .i64 i ∧ e 1 = lv ∧ e 7 = .pointer none ∧ e 9 = .pointer none ∧ Grow w2 w') (fun e _ => 40 - (intOf (e 11)).toNat)
    ⟨0, by omega, by omega, by simp [upd, updO, ev], by simp [upd, updO, ev], by simp [upd, updO, ev], by simp [upd, updO, ev], Keep.refl _ _⟩ ?_
  rintro e w3 ⟨i, hi, hi40, e11, e1, e7, e9, hg3⟩
  have hv3 := Has.grow hv hg3
  by_cases hlt : i < l.length
  · by_cases h40 : i < 40
    · have h40' : ((i : Int) < 40) := by omega
      obtain ⟨b, o, hia, hc0, hc1, hc2, hc3, hob⟩ := HasD.at hv3 hlt
      generalize l[i] = x at hc0 hc1 hc2 hc3
      by_cases hfl : x.fl = true
      · rw [hfl] at hc0
        simp (maxSteps := 1000000) (disch := omega) only [F13_L1, ↓sy1, sy2, sy3, readOK, implies_true, forall_const, Nat.reduceEqDiff, ↓reduceIte, Option.map_some, Option.map_none, List.map_cons, List.map_nil, oneOf, if_true, if_false, Nat.reduceAdd, Nat.reduceMul, Option.isNone_some, Option.isNone_none, List.getElem?_toArray, List.getElem?_cons_zero, List.getElem?_cons_succ, reduceCtorEq, e11, e1, e7, e9, HasD.lenD hv3, Int.ofNat_lt, hlt, h40', decide_true, hia, hc0]
        refine call0 flush_nil ?_
        rintro _ w4 ⟨rfl, rfl⟩
        simp (maxSteps := 1000000) (disch := omega) only [↓sy1, sy2, sy3, readOK, implies_true, forall_const, Nat.reduceEqDiff, ↓reduceIte, Option.map_some, Option.map_none, List.map_cons, List.map_nil, oneOf, if_true, if_false, Nat.reduceAdd, Nat.reduceMul, Option.isNone_some, Option.isNone_none, List.getElem?_toArray, List.getElem?_cons_zero, List.getElem?_cons_succ, reduceCtorEq, e11, e1, e7, e9]
        refine call0 rflush_nil ?_
        rintro _ w5 ⟨rfl, rfl⟩
        simp (maxSteps := 1000000) (disch := omega) only [↓sy1, sy2, sy3, readOK, implies_true, forall_const, Nat.reduceEqDiff, ↓reduceIte, Option.map_some, Option.map_none, List.map_cons, List.map_nil, oneOf, if_true, if_false, Nat.reduceAdd, Nat.reduceMul, Option.isNone_some, Option.isNone_none, List.getElem?_toArray, List.getElem?_cons_zero, List.getElem?_cons_succ, reduceCtorEq, e11, e1, e7, e9, decide_true]
        refine R_out ⟨⟨i + 1, by omega, by omega, rfl, hg3⟩, ?_⟩
        simp only [intOf]; omega
      · have hfl' : x.fl = false := by simpa using hfl
        rw [hfl'] at hc0
        have hval : Value.agg #[.bool false, .int .i64 x.n, .int .i64 x.len, .int .u8 (x.b.toNat : Int)] = x.val := by rw [Deed.val, hfl']
        have hl4 := loadN4 hc0 hc1 hc2 hc3
        simp (maxSteps := 1000000) (disch := omega) only [F13_L1, ↓sy1, sy2, sy3, readOK, implies_true, forall_const, Nat.reduceEqDiff, ↓reduceIte, Option.map_some, Option.map_none, List.map_cons, List.map_nil, oneOf, if_true, if_false, Nat.reduceAdd, Nat.reduceMul, Option.isNone_some, Option.isNone_none, List.getElem?_toArray, List.getElem?_cons_zero, List.getElem?_cons_succ, reduceCtorEq, e11, e1, e7, e9, HasD.lenD hv3, Int.ofNat_lt, hlt, h40', decide_true, hia, hc0, hl4]
        rw [hval]
        refine call0 (bytes_spec x w3) ?_
        rintro bv w4 ⟨hbv, hg4⟩
        simp (maxSteps := 1000000) (disch := omega) only [↓sy1, sy2, sy3, readOK, implies_true, forall_const, Nat.reduceEqDiff, ↓reduceIte, Option.map_some, Option.map_none, List.map_cons, List.map_nil, oneOf, if_true, if_false, Nat.reduceAdd, Nat.reduceMul, Option.isNone_some, Option.isNone_none, List.getElem?_toArray, List.getElem?_cons_zero, List.getElem?_cons_succ, reduceCtorEq, e11, e1, e7, e9]
        refine draw13_0 (fun _ => False) ?_
        have hgd : Grow w4 w4.drew := (Keep.refl _ _).drew
        have hg5 := hg4.trans hgd
        have hbv5 := own_grow hbv hgd
        have hc15 := Keep.gcell hg5 hc1
        generalize w4.drew = w5 at hg5 hbv5 hc15 ⊢
        simp (maxSteps := 1000000) (disch := omega) only [PL13_0, ↓sy1, sy2, sy3, readOK, implies_true, forall_const, Nat.reduceEqDiff, ↓reduceIte, Option.map_some, Option.map_none, List.map_cons, List.map_nil, oneOf, if_true, if_false, Nat.reduceAdd, Nat.reduceMul, Option.isNone_some, Option.isNone_none, List.getElem?_toArray, List.getElem?_cons_zero, List.getElem?_cons_succ, reduceCtorEq, e11, e1, e7, e9, hia, hc15]
        refine call0 write_nil ?_
        rintro _ w6 ⟨rfl, rfl⟩
        simp (maxSteps := 1000000) (disch := omega) only [↓sy1, sy2, sy3, readOK, implies_true, forall_const, Nat.reduceEqDiff, ↓reduceIte, Option.map_some, Option.map_none, List.map_cons, List.map_nil, oneOf, if_true, if_false, Nat.reduceAdd, Nat.reduceMul, Option.isNone_some, Option.isNone_none, List.getElem?_toArray, List.getElem?_cons_zero, List.getElem?_cons_succ, reduceCtorEq, e11, e1, e7, e9]
        refine ⟨Keep.refl _ _, ?_⟩
        refine call0 rwrite_nil ?_
        rintro _ w7 ⟨rfl, rfl⟩
        simp (maxSteps := 1000000) (disch := omega) only [↓sy1, sy2, sy3, readOK, implies_true, forall_const, Nat.reduceEqDiff, ↓reduceIte, Option.map_some, Option.map_none, List.map_cons, List.map_nil, oneOf, if_true, if_false, Nat.reduceAdd, Nat.reduceMul, Option.isNone_some, Option.isNone_none, List.getElem?_toArray, List.getElem?_cons_zero, List.getElem?_cons_succ, reduceCtorEq, e11, e1, e7, e9, decide_true]
        have hle := x.size_le
        refine loop_rule (fun e w' => ∃ (k : Nat) (xs : List Value), k ≤ x.size ∧ e 13 = .int .i64 k ∧ e 12 = bv ∧ e 11 = .int .i64 i ∧ e 1 = lv ∧ e 7 = .pointer none ∧ e 9 = .pointer none ∧
            w'.ownsRow w3.heap.size 5 1 bv x.size xs ∧ Grow w3 w') (fun e _ => x.size - (intOf (e 13)).toNat)
          ⟨0, _, by omega, by simp [upd, updO, ev], by simp [upd, updO, ev], by simp [upd, updO, ev, e11], by simp [upd, updO, ev, e1], by simp [upd, updO, ev, e7], by simp [upd, updO, ev, e9], hbv5, hg5⟩ ?_
        clear e11 e1 e7 e9
        rintro e w8 ⟨k, xs, hk, e13, e12, e11, e1, e7, e9, hbv8, hg8⟩
        have hlen8 : ∀ w2, lenF w2 0 bv = some (.int .i64 x.size) := fun w2 => by
          have h1 := (Has.own hbv8).len w2
          have h2 : xs.length = x.size := by simpa using hbv8.1
          rw [h1, h2]
        by_cases hkl : k < x.size
        · obtain ⟨a, w9, hia9, hst, hbv9, hk9, _⟩ := own_store hbv8 hkl (u := .int .u8 99) rfl
          simp (maxSteps := 1000000) (disch := omega) only [F13_L0, ↓sy1, sy2, sy3, readOK, implies_true, forall_const, Nat.reduceEqDiff, ↓reduceIte, Option.map_some, Option.map_none, List.map_cons, List.map_nil, oneOf, if_true, if_false, Nat.reduceAdd, Nat.reduceMul, Option.isNone_some, Option.isNone_none, List.getElem?_toArray, List.getElem?_cons_zero, List.getElem?_cons_succ, reduceCtorEq, e13, e12, e11, e1, e7, e9, hlen8, Int.ofNat_lt, hkl, decide_true, hia9, hst]
          refine R_out ⟨⟨k + 1, _, by omega, rfl, hbv9, hg8.then hk9 (fun bb hbb h => by
            obtain ⟨hl1, _⟩ := World.ownsRow.lt hbv8 bb h; omega)⟩, ?_⟩
          simp only [intOf]; omega
        · simp (maxSteps := 1000000) (disch := omega) only [F13_L0, ↓sy1, sy2, sy3, readOK, implies_true, forall_const, Nat.reduceEqDiff, ↓reduceIte, Option.map_some, Option.map_none, List.map_cons, List.map_nil, oneOf, if_true, if_false, Nat.reduceAdd, Nat.reduceMul, Option.isNone_some, Option.isNone_none, List.getElem?_toArray, List.getElem?_cons_zero, List.getElem?_cons_succ, reduceCtorEq, e13, e12, e11, e1, e7, e9, hlen8, Int.ofNat_lt, hkl, decide_false]
          refine R_out ⟨⟨i + 1, by omega, by omega, rfl, hg3.trans hg8⟩, ?_⟩
          simp only [intOf]; omega
    · have h40' : ¬ ((i : Int) < 40) := by omega
      simp (maxSteps := 1000000) (disch := omega) only [F13_L1, ↓sy1, sy2, sy3, readOK, implies_true, forall_const, Nat.reduceEqDiff, ↓reduceIte, Option.map_some, Option.map_none, List.map_cons, List.map_nil, oneOf, if_true, if_false, Nat.reduceAdd, Nat.reduceMul, Option.isNone_some, Option.isNone_none, List.getElem?_toArray, List.getElem?_cons_zero, List.getElem?_cons_succ, reduceCtorEq, e11, e1, e7, e9, HasD.lenD hv3, Int.ofNat_lt, hlt, h40', decide_true, decide_false]
      exact R_out hg3
  · simp (maxSteps := 1000000) (disch := omega) only [F13_L1, ↓sy1, sy2, sy3, readOK, implies_true, forall_const, Nat.reduceEqDiff, ↓reduceIte, Option.map_some, Option.map_none, List.map_cons, List.map_nil, oneOf, if_true, if_false, Nat.reduceAdd, Nat.reduceMul, Option.isNone_some, Option.isNone_none, List.getElem?_toArray, List.getElem?_cons_zero, List.getElem?_cons_succ, reduceCtorEq, e11, e1, e7, e9, HasD.lenD hv3, Int.ofNat_lt, hlt, decide_false]
    exact R_out hg3
end Go.Proofs.Ytaeejceljgjdkaa
