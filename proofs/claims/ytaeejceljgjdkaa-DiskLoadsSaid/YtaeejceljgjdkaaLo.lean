/- DiskLoads: the walk. -/
import Derived.Test.YtaeejceljgjdkaaRc
namespace Go.Proofs.Ytaeejceljgjdkaa
open Go
set_option linter.unusedSimpArgs false
open Go.RowKit (intOf)
theorem load1_spec {w : World} {u : Value} {l : List UInt8} (h : HasB w u l) :
    Calls Try.prog 58 #[u] w (Ret fun v w' => v = .bool (!decide (l.length = 512)) ∧ w' = w) := by
  apply enter58
  apply R_in
  by_cases h5 : l.length = 512
  · simp (disch := omega) only [F58, ↓sy1, sy2, sy3, readOK, implies_true, forall_const, Nat.reduceEqDiff, ↓reduceIte, Option.map_some, Option.map_none, List.map_cons, List.map_nil, oneOf, if_true, if_false, Nat.reduceAdd, Nat.reduceMul, Option.isNone_some, Option.isNone_none, List.getElem?_toArray, List.getElem?_cons_zero, List.getElem?_cons_succ, reduceCtorEq, h.lenB, show ((l.length : Int) = 512) from by omega, decide_true]
    exact R_out (by simp [h5])
  · simp (disch := omega) only [F58, ↓sy1, sy2, sy3, readOK, implies_true, forall_const, Nat.reduceEqDiff, ↓reduceIte, Option.map_some, Option.map_none, List.map_cons, List.map_nil, oneOf, if_true, if_false, Nat.reduceAdd, Nat.reduceMul, Option.isNone_some, Option.isNone_none, List.getElem?_toArray, List.getElem?_cons_zero, List.getElem?_cons_succ, reduceCtorEq, h.lenB, show ¬ ((l.length : Int) = 512) from by omega, decide_false]
    exact R_out (by simp [h5])
theorem indexFunc_spec {w : World} {u : Value} {ls : List (List UInt8)} (h : HasR w u ls) (hl : ls.length ≤ 1048576) :
    Calls Try.prog 66 #[u, .func (.func 58) #[] #[]] w (Ret fun v w' => ((∀ l ∈ ls, l.length = 512) ∧ v = .int .i64 (-1) ∨ (¬ ∀ l ∈ ls, l.length = 512) ∧ ∃ i : Nat, v = .int .i64 i) ∧ w' = w) := by
  have hcl : callable Try.prog 58 = true := by kernel_rfl
  apply enter66
  apply R_in
  simp (disch := omega) only [F66, ↓sy1, sy2, sy3, readOK, implies_true, forall_const, Nat.reduceEqDiff, ↓reduceIte, Option.map_some, Option.map_none, List.map_cons, List.map_nil, oneOf, if_true, if_false, Nat.reduceAdd, Nat.reduceMul, Option.isNone_some, Option.isNone_none, List.getElem?_toArray, List.getElem?_cons_zero, List.getElem?_cons_succ, reduceCtorEq, h.len]
  refine loop_rule (fun e w' => ∃ i : Nat, i ≤ ls.length ∧ e 8 = .int .i64 i ∧ e 7 = .int .i64 ls.length ∧ e 0 = u ∧ e 1 = .func (.func 58) #[] #[] ∧ (∀ j (hj : j < ls.length), j < i → ls[j].length = 512) ∧ w' = w) (fun e _ => ls.length - (intOf (e 8)).toNat)
    ⟨0, by omega, by simp [upd, updO, ev], by simp [upd, updO, ev], by simp [upd, updO, ev], by simp [upd, updO, ev], fun j _ hj => by omega, rfl⟩ ?_
  rintro e w' ⟨i, hi, e8, e7, e0, e1, hgood, rfl⟩
  by_cases hlt : i < ls.length
  · obtain ⟨p, x, hp, hpc, hx⟩ := h.get hlt
    simp (disch := omega) only [F66_L0, ↓sy1, sy2, sy3, readOK, implies_true, forall_const, Nat.reduceEqDiff, ↓reduceIte, Option.map_some, Option.map_none, List.map_cons, List.map_nil, oneOf, if_true, if_false, Nat.reduceAdd, Nat.reduceMul, Option.isNone_some, Option.isNone_none, List.getElem?_toArray, List.getElem?_cons_zero, List.getElem?_cons_succ, reduceCtorEq, e8, e7, e0, e1, Int.ofNat_lt, hlt, decide_true, hp, hpc]
    refine fval_rule hcl (by simp only [upd_at, Nat.reduceEqDiff, reduceIte, ev_tmp, ev_const, List.map_cons, List.map_nil, e1]) (vs := [x]) (by simp only [upd_at, Nat.reduceEqDiff, reduceIte, ev_tmp, ev_const, List.map_cons, List.map_nil]) (load1_spec hx) ?_
    rintro _ w2 ⟨rfl, rfl⟩
    by_cases h5 : ls[i].length = 512
    · simp (disch := omega) only [↓sy1, sy2, sy3, readOK, implies_true, forall_const, Nat.reduceEqDiff, ↓reduceIte, Option.map_some, Option.map_none, List.map_cons, List.map_nil, oneOf, if_true, if_false, Nat.reduceAdd, Nat.reduceMul, Option.isNone_some, Option.isNone_none, List.getElem?_toArray, List.getElem?_cons_zero, List.getElem?_cons_succ, reduceCtorEq, e8, e7, e0, e1, h5, decide_true]
      refine R_out ⟨⟨i + 1, by omega, rfl, fun j hj hji => ?_⟩, ?_⟩
      · by_cases hj' : j = i
        · subst hj'; exact h5
        · exact hgood j hj (by omega)
      · simp only [intOf]; omega
    · simp (disch := omega) only [↓sy1, sy2, sy3, readOK, implies_true, forall_const, Nat.reduceEqDiff, ↓reduceIte, Option.map_some, Option.map_none, List.map_cons, List.map_nil, oneOf, if_true, if_false, Nat.reduceAdd, Nat.reduceMul, Option.isNone_some, Option.isNone_none, List.getElem?_toArray, List.getElem?_cons_zero, List.getElem?_cons_succ, reduceCtorEq, e8, e7, e0, e1, h5, decide_false]
      exact R_out (.inr ⟨fun hall => h5 (hall _ (List.getElem_mem hlt)), i, rfl⟩)
  · simp (disch := omega) only [F66_L0, ↓sy1, sy2, sy3, readOK, implies_true, forall_const, Nat.reduceEqDiff, ↓reduceIte, Option.map_some, Option.map_none, List.map_cons, List.map_nil, oneOf, if_true, if_false, Nat.reduceAdd, Nat.reduceMul, Option.isNone_some, Option.isNone_none, List.getElem?_toArray, List.getElem?_cons_zero, List.getElem?_cons_succ, reduceCtorEq, e8, e7, e0, e1, Int.ofNat_lt, hlt, decide_false]
    refine R_out (.inl fun l hl' => ?_)
    obtain ⟨j, hj, rfl⟩ := List.getElem_of_mem hl'
    exact hgood j hj (by omega)
theorem containsFunc_spec {w : World} {u : Value} {ls : List (List UInt8)} (h : HasR w u ls) (hl : ls.length ≤ 1048576) :
    Calls Try.prog 57 #[u, .func (.func 58) #[] #[]] w (Ret fun v w' => ((∀ l ∈ ls, l.length = 512) ∧ v = .bool false ∨ (¬ ∀ l ∈ ls, l.length = 512) ∧ v = .bool true) ∧ w' = w) := by
  apply enter57
  apply R_in
  simp (disch := omega) only [F57, ↓sy1, sy2, sy3, readOK, implies_true, forall_const, Nat.reduceEqDiff, ↓reduceIte, Option.map_some, Option.map_none, List.map_cons, List.map_nil, oneOf, if_true, if_false, Nat.reduceAdd, Nat.reduceMul, Option.isNone_some, Option.isNone_none, List.getElem?_toArray, List.getElem?_cons_zero, List.getElem?_cons_succ, reduceCtorEq]
  refine call0 (indexFunc_spec h hl) ?_
  rintro v w1 ⟨⟨hall, rfl⟩ | ⟨hno, i, rfl⟩, rfl⟩
  · simp (disch := omega) only [↓sy1, sy2, sy3, readOK, implies_true, forall_const, Nat.reduceEqDiff, ↓reduceIte, Option.map_some, Option.map_none, List.map_cons, List.map_nil, oneOf, if_true, if_false, Nat.reduceAdd, Nat.reduceMul, Option.isNone_some, Option.isNone_none, List.getElem?_toArray, List.getElem?_cons_zero, List.getElem?_cons_succ, reduceCtorEq, show ¬ ((0 : Int) ≤ -1) from by omega, decide_false]
    exact R_out (.inl hall)
  · simp (disch := omega) only [↓sy1, sy2, sy3, readOK, implies_true, forall_const, Nat.reduceEqDiff, ↓reduceIte, Option.map_some, Option.map_none, List.map_cons, List.map_nil, oneOf, if_true, if_false, Nat.reduceAdd, Nat.reduceMul, Option.isNone_some, Option.isNone_none, List.getElem?_toArray, List.getElem?_cons_zero, List.getElem?_cons_succ, reduceCtorEq, show ((0 : Int) ≤ (i : Int)) from by omega, decide_true]
    exact R_out (.inr hno)
theorem load_spec {G : Gh} (κ : Nat) {w : World} {u : Value} {ls : List (List UInt8)} (h : HasR w u ls) (hl : ls.length ≤ 1048576) (hsm : Small ls) :
    Calls Try.prog 30 #[u] w (Ret fun v w' => (ls.length < 1 ∨ 4096 < ls.length → v = .tuple #[.pointer none, .int .i64 2] ∧ w' = w) ∧ (1 ≤ ls.length → ls.length ≤ 4096 → (¬ ∀ l ∈ ls, l.length = 512) → v = .tuple #[.pointer none, .int .i64 3] ∧ w' = w) ∧
      (1 ≤ ls.length → ls.length ≤ 4096 → (∀ l ∈ ls, l.length = 512) → ∃ p G', v = .tuple #[.pointer (some ⟨p, 0, none⟩), .int .i64 0] ∧ w.heap.size ≤ p ∧ DiskAt G' κ w' p ⟨ls, []⟩ ∧ Ext0 G w G' w')) := by
  apply enter30
  apply R_in
  by_cases h1 : ls.length < 1
  · simp (disch := omega) only [F30, ↓sy1, sy2, sy3, readOK, implies_true, forall_const, Nat.reduceEqDiff, ↓reduceIte, Option.map_some, Option.map_none, List.map_cons, List.map_nil, oneOf, if_true, if_false, Nat.reduceAdd, Nat.reduceMul, Option.isNone_some, Option.isNone_none, List.getElem?_toArray, List.getElem?_cons_zero, List.getElem?_cons_succ, reduceCtorEq, h.len, show ((ls.length : Int) < 1) from by omega, decide_true]
    exact R_out ⟨fun h => by omega, fun h => by omega⟩
  by_cases h2 : 4096 < ls.length
  · simp (disch := omega) only [F30, ↓sy1, sy2, sy3, readOK, implies_true, forall_const, Nat.reduceEqDiff, ↓reduceIte, Option.map_some, Option.map_none, List.map_cons, List.map_nil, oneOf, if_true, if_false, Nat.reduceAdd, Nat.reduceMul, Option.isNone_some, Option.isNone_none, List.getElem?_toArray, List.getElem?_cons_zero, List.getElem?_cons_succ, reduceCtorEq, h.len, show ¬ ((ls.length : Int) < 1) from by omega, show ((4096 : Int) < (ls.length : Int)) from by omega, decide_true, decide_false]
    exact R_out ⟨fun _ h => by omega, fun _ h => by omega⟩
  simp (disch := omega) only [F30, ↓sy1, sy2, sy3, readOK, implies_true, forall_const, Nat.reduceEqDiff, ↓reduceIte, Option.map_some, Option.map_none, List.map_cons, List.map_nil, oneOf, if_true, if_false, Nat.reduceAdd, Nat.reduceMul, Option.isNone_some, Option.isNone_none, List.getElem?_toArray, List.getElem?_cons_zero, List.getElem?_cons_succ, reduceCtorEq, h.len, show ¬ ((ls.length : Int) < 1) from by omega, show ¬ ((4096 : Int) < (ls.length : Int)) from by omega, decide_false]
  refine call0 (containsFunc_spec h hl) ?_
  rintro v w1 ⟨⟨hall, rfl⟩ | ⟨hno, rfl⟩, rfl⟩
  · simp (disch := omega) only [↓sy1, sy2, sy3, readOK, implies_true, forall_const, Nat.reduceEqDiff, ↓reduceIte, Option.map_some, Option.map_none, List.map_cons, List.map_nil, oneOf, if_true, if_false, Nat.reduceAdd, Nat.reduceMul, Option.isNone_some, Option.isNone_none, List.getElem?_toArray, List.getElem?_cons_zero, List.getElem?_cons_succ, reduceCtorEq]
    refine call0 (copied_spec u ls w1 h hl hsm) ?_
    rintro c w2 ⟨hc, hg2⟩
    simp (disch := omega) only [↓sy1, sy2, sy3, readOK, implies_true, forall_const, Nat.reduceEqDiff, ↓reduceIte, Option.map_some, Option.map_none, List.map_cons, List.map_nil, oneOf, if_true, if_false, Nat.reduceAdd, Nat.reduceMul, Option.isNone_some, Option.isNone_none, List.getElem?_toArray, List.getElem?_cons_zero, List.getElem?_cons_succ, reduceCtorEq]
    have hx : Ext0 G w1 (G.upto w1.heap.size (fun _ => 0) (fun _ => maxLen)) w2 := .upto hg2 _ _
    have hra : RowsAt (G.upto w1.heap.size (fun _ => 0) (fun _ => maxLen)) w2 c ls := hc.rowsAt (fun b hb => by simp [Gh.upto, Nat.not_lt.2 hb])
    have hok : (⟨ls, []⟩ : Dsk).Ok := ⟨hall, fun n b hm => (by cases hm), by simp only; omega, by simp only; omega⟩
    refine call0 (begun_spec κ hra hok) ?_
    rintro v w3 ⟨p, G', rfl, hp, hd, hx3⟩
    simp (disch := omega) only [↓sy1, sy2, sy3, readOK, implies_true, forall_const, Nat.reduceEqDiff, ↓reduceIte, Option.map_some, Option.map_none, List.map_cons, List.map_nil, oneOf, if_true, if_false, Nat.reduceAdd, Nat.reduceMul, Option.isNone_some, Option.isNone_none, List.getElem?_toArray, List.getElem?_cons_zero, List.getElem?_cons_succ, reduceCtorEq]
    exact R_out ⟨fun h => by omega, fun _ _ h => absurd hall h, fun _ _ _ => ⟨p, G', rfl, Nat.le_trans hg2.size hp, hd, hx.trans hx3⟩⟩
  · simp (disch := omega) only [↓sy1, sy2, sy3, readOK, implies_true, forall_const, Nat.reduceEqDiff, ↓reduceIte, Option.map_some, Option.map_none, List.map_cons, List.map_nil, oneOf, if_true, if_false, Nat.reduceAdd, Nat.reduceMul, Option.isNone_some, Option.isNone_none, List.getElem?_toArray, List.getElem?_cons_zero, List.getElem?_cons_succ, reduceCtorEq]
    exact R_out ⟨fun h => by omega, fun _ _ h => absurd h hno⟩
theorem rload_spec {G : Gh} (κ : Nat) {w : World} {u : Value} {ls : List (List UInt8)} (h : HasR w u ls) (hl : ls.length ≤ 1048576) (hsm : Small ls) :
    Calls Try.prog 31 #[u] w (Ret fun v w' => (ls.length < 1 ∨ 4096 < ls.length → v = .tuple #[.pointer none, .int .i64 2] ∧ w' = w) ∧ (1 ≤ ls.length → ls.length ≤ 4096 → (¬ ∀ l ∈ ls, l.length = 512) → v = .tuple #[.pointer none, .int .i64 3] ∧ w' = w) ∧
      (1 ≤ ls.length → ls.length ≤ 4096 → (∀ l ∈ ls, l.length = 512) → ∃ p G', v = .tuple #[.pointer (some ⟨p, 0, none⟩), .int .i64 0] ∧ w.heap.size ≤ p ∧ RefAt G' κ w' p ⟨ls, []⟩ ∧ Ext0 G w G' w')) := by
  apply enter31
  apply R_in
  by_cases h1 : ls.length < 1
  · simp (disch := omega) only [F31, ↓sy1, sy2, sy3, readOK, implies_true, forall_const, Nat.reduceEqDiff, ↓reduceIte, Option.map_some, Option.map_none, List.map_cons, List.map_nil, oneOf, if_true, if_false, Nat.reduceAdd, Nat.reduceMul, Option.isNone_some, Option.isNone_none, List.getElem?_toArray, List.getElem?_cons_zero, List.getElem?_cons_succ, reduceCtorEq, h.len, show ((ls.length : Int) < 1) from by omega, decide_true]
    exact R_out ⟨fun h => by omega, fun h => by omega⟩
  by_cases h2 : 4096 < ls.length
  · simp (disch := omega) only [F31, ↓sy1, sy2, sy3, readOK, implies_true, forall_const, Nat.reduceEqDiff, ↓reduceIte, Option.map_some, Option.map_none, List.map_cons, List.map_nil, oneOf, if_true, if_false, Nat.reduceAdd, Nat.reduceMul, Option.isNone_some, Option.isNone_none, List.getElem?_toArray, List.getElem?_cons_zero, List.getElem?_cons_succ, reduceCtorEq, h.len, show ¬ ((ls.length : Int) < 1) from by omega, show ((4096 : Int) < (ls.length : Int)) from by omega, decide_true, decide_false]
    exact R_out ⟨fun _ h => by omega, fun _ h => by omega⟩
  simp (disch := omega) only [F31, ↓sy1, sy2, sy3, readOK, implies_true, forall_const, Nat.reduceEqDiff, ↓reduceIte, Option.map_some, Option.map_none, List.map_cons, List.map_nil, oneOf, if_true, if_false, Nat.reduceAdd, Nat.reduceMul, Option.isNone_some, Option.isNone_none, List.getElem?_toArray, List.getElem?_cons_zero, List.getElem?_cons_succ, reduceCtorEq, h.len, show ¬ ((ls.length : Int) < 1) from by omega, show ¬ ((4096 : Int) < (ls.length : Int)) from by omega, decide_false]
  refine loop_rule (fun e w' => ∃ i : Nat, i ≤ ls.length ∧ e 4 = .int .i64 i ∧ e 0 = u ∧ (∀ j (hj : j < ls.length), j < i → ls[j].length = 512) ∧ w' = w) (fun e _ => ls.length - (intOf (e 4)).toNat)
    ⟨0, by omega, by simp [upd, updO, ev], by simp [upd, updO, ev], fun j _ hj => by omega, rfl⟩ ?_
  rintro e w' ⟨i, hi, e4, e0, hgood, rfl⟩
  by_cases hlt : i < ls.length
  · obtain ⟨p, x, hp, hpc, hx⟩ := h.get hlt
    by_cases h5 : ls[i].length = 512
    · simp (disch := omega) only [F31_L0, ↓sy1, sy2, sy3, readOK, implies_true, forall_const, Nat.reduceEqDiff, ↓reduceIte, Option.map_some, Option.map_none, List.map_cons, List.map_nil, oneOf, if_true, if_false, Nat.reduceAdd, Nat.reduceMul, Option.isNone_some, Option.isNone_none, List.getElem?_toArray, List.getElem?_cons_zero, List.getElem?_cons_succ, reduceCtorEq, e4, e0, h.len, Int.ofNat_lt, hlt, decide_true, hp, hpc, hx.lenB, show ((ls[i].length : Int) = 512) = True from by simp [h5]]
      refine R_out ⟨⟨i + 1, by omega, rfl, fun j hj hji => ?_⟩, ?_⟩
      · by_cases hj' : j = i
        · subst hj'; exact h5
        · exact hgood j hj (by omega)
      · simp only [intOf]; omega
    · simp (disch := omega) only [F31_L0, ↓sy1, sy2, sy3, readOK, implies_true, forall_const, Nat.reduceEqDiff, ↓reduceIte, Option.map_some, Option.map_none, List.map_cons, List.map_nil, oneOf, if_true, if_false, Nat.reduceAdd, Nat.reduceMul, Option.isNone_some, Option.isNone_none, List.getElem?_toArray, List.getElem?_cons_zero, List.getElem?_cons_succ, reduceCtorEq, e4, e0, h.len, Int.ofNat_lt, hlt, decide_true, decide_false, hp, hpc, hx.lenB, show ¬ ((ls[i].length : Int) = 512) from by omega]
      exact R_out ⟨fun h => by omega, fun _ _ h => absurd (h _ (List.getElem_mem hlt)) h5⟩
  · have hall : ∀ l ∈ ls, l.length = 512 := fun l hl' => by
      obtain ⟨j, hj, rfl⟩ := List.getElem_of_mem hl'
      exact hgood j hj (by omega)
    simp (disch := omega) only [F31_L0, ↓sy1, sy2, sy3, readOK, implies_true, forall_const, Nat.reduceEqDiff, ↓reduceIte, Option.map_some, Option.map_none, List.map_cons, List.map_nil, oneOf, if_true, if_false, Nat.reduceAdd, Nat.reduceMul, Option.isNone_some, Option.isNone_none, List.getElem?_toArray, List.getElem?_cons_zero, List.getElem?_cons_succ, reduceCtorEq, e4, e0, h.len, Int.ofNat_lt, hlt, decide_false]
    refine call0 (copyAll_spec u ls w' h hl hsm) ?_
    rintro c w2 ⟨hc, hg2⟩
    have hcc : isCell c = true := by obtain ⟨vs, h, _⟩ := hc.has; exact h.isCell
    have hx : Ext0 G w' (G.upto w'.heap.size (fun _ => κ) (fun _ => maxLen)) w2 := .upto hg2 _ _
    have hra : RowsAt (G.upto w'.heap.size (fun _ => κ) (fun _ => maxLen)) w2 c ls := hc.rowsAt (fun b hb => by simp [Gh.upto, Nat.not_lt.2 hb])
    have hg3 : Grow w2 (w2.alloc (.cells #[c, .slice none 0 0] 88)) := (Keep.refl _ _).alloc _
    have hb3 := heap_alloc_new w2 (.cells #[c, .slice none 0 0] 88)
    generalize hw3 : w2.alloc (.cells #[c, .slice none 0 0] 88) = w3 at hg3 hb3
    simp (disch := omega) only [↓sy1, sy2, sy3, readOK, implies_true, forall_const, Nat.reduceEqDiff, ↓reduceIte, Option.map_some, Option.map_none, List.map_cons, List.map_nil, oneOf, if_true, if_false, Nat.reduceAdd, Nat.reduceMul, Option.isNone_some, Option.isNone_none, List.getElem?_toArray, List.getElem?_cons_zero, List.getElem?_cons_succ, reduceCtorEq, fill_of2, fillF_1of2 (b := .slice none 0 0) hcc, Option.map_some, agg2_cells (y := .slice none 0 0) hcc rfl, hw3]
    have hxb : Ext0 (G.upto w'.heap.size (fun _ => κ) (fun _ => maxLen)) w2 ((G.upto w'.heap.size (fun _ => κ) (fun _ => maxLen)).at w2.heap.size κ 0) w3 := .fresh hg3 (Nat.le_refl _)
    have hok : (⟨ls, []⟩ : Dsk).Ok := ⟨hall, fun n b hm => (by cases hm), by simp only; omega, by simp only; omega⟩
    exact R_out ⟨fun h => by omega, fun _ _ h => absurd hall h, fun _ _ _ => ⟨w2.heap.size, _, rfl, hg2.size, ⟨hok, by simp, c, .slice none 0 0, [], hb3, Gh.at_own, Gh.at_fix, hra.ext hxb, ⟨Has.nil 3 w3, fun _ _ _ _ h => by cases h⟩, trivial⟩, hx.trans hxb⟩⟩
end Go.Proofs.Ytaeejceljgjdkaa
