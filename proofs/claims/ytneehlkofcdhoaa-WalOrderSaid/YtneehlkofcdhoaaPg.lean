/- Pages that are handed in; is there one out of range? -/
import Derived.Test.YtneehlkofcdhoaaWo
import Derived.Test.YtneehlkofcdhoaaKs
namespace Go.Proofs.Ytneehlkofcdhoaa
open Go
set_option linter.unusedSimpArgs false
open Go.RowKit (intOf)
abbrev Pg := Int × List UInt8
/-- Pages in memory, held by others than κ. -/
def PagesH (G : Gh) (κ : Nat) (w : World) (v : Value) (ps : List Pg) (xs : List Value) : Prop :=
  Has 2 w v xs ∧ xs.length = 2 * ps.length ∧ (∀ b, v.ownBlock = some b → ps ≠ [] → b < w.heap.size ∧ G.own b ≠ κ) ∧
  ∀ i (h : i < ps.length), xs[2 * i]? = some (.int .i64 ps[i].1) ∧ ∃ u, xs[2 * i + 1]? = some u ∧ Held G κ w u (bs ps[i].2)
theorem PagesH.ext {κ : Nat} {G G' : Gh} {w w' : World} {v : Value} {ps : List Pg} {xs : List Value} (h : PagesH G κ w v ps xs) (hx : Ext (fun c => c = κ) G w G' w') : PagesH G' κ w' v ps xs := by
  obtain ⟨h1, h2, h3, h4⟩ := h
  have hne : xs ≠ [] → ps ≠ [] := fun h hp => h (List.eq_nil_of_length_eq_zero (by rw [h2, hp]; rfl))
  refine ⟨h1.keep hx.keep (fun b hb hxs => (h3 b hb (hne hxs)).2), h2, fun b hb hp => ?_, fun i hi => ?_⟩
  · obtain ⟨h5, h6⟩ := h3 b hb hp
    exact ⟨Nat.lt_of_lt_of_le h5 hx.size, by rw [hx.own b h5]; exact h6⟩
  · obtain ⟨h5, u, h6, h7⟩ := h4 i hi
    exact ⟨h5, u, h6, h7.ext hx⟩
theorem PagesH.ext2 {κ κ' : Nat} {G G' : Gh} {w w' : World} {v : Value} {ps : List Pg} {xs : List Value} (h1 : PagesH G κ w v ps xs) (h2 : PagesH G κ' w v ps xs) (hx : Ext (fun c => c = κ) G w G' w') : PagesH G' κ' w' v ps xs := by
  obtain ⟨a1, a2, a3, a4⟩ := h1.ext hx
  obtain ⟨b1, b2, b3, b4⟩ := h2
  refine ⟨a1, a2, fun b hb hp => ?_, fun i hi => ?_⟩
  · obtain ⟨c1, c2⟩ := b3 b hb hp
    exact ⟨(a3 b hb hp).1, by rw [hx.own b c1]; exact c2⟩
  · obtain ⟨d1, u, d2, d3⟩ := a4 i hi
    obtain ⟨_, u', e2, e3⟩ := b4 i hi
    rw [d2] at e2; cases e2
    exact ⟨d1, u, d2, d3.1, fun b hb hne => ⟨(d3.2 b hb hne).1, by rw [hx.own b (e3.2 b hb hne).1]; exact (e3.2 b hb hne).2⟩⟩
theorem PagesH.grow {κ : Nat} {G : Gh} {w w' : World} {v : Value} {ps : List Pg} {xs : List Value} (h : PagesH G κ w v ps xs) (hg : Grow w w') : PagesH G κ w' v ps xs := h.ext (.grow hg)
theorem PagesH.nil (G : Gh) (κ : Nat) (w : World) : PagesH G κ w (.slice none 0 0) [] [] := ⟨Has.nil 2 w, rfl, fun _ _ h => absurd rfl h, fun i hi => by simp at hi⟩
theorem PagesH.len {κ : Nat} {G : Gh} {w : World} {v : Value} {ps : List Pg} {xs : List Value} (h : PagesH G κ w v ps xs) (w2 : World) : lenF w2 0 v = some (.int .i64 ps.length) := by
  rw [h.1.lenk (by omega), h.2.1, Nat.mul_div_cancel_left _ (by omega)]
theorem loadN2 {w : World} {b o : Nat} {x y : Value} (h0 : w.cell? ⟨b, o, none⟩ = some x) (h1 : w.cell? ⟨b, o + 1, none⟩ = some y) : loadN w ⟨b, o, none⟩ 0 2 = some [x, y] := by
  simp [loadN, add_lit, h0, h1]
theorem PagesH.at {κ : Nat} {G : Gh} {w : World} {v : Value} {ps : List Pg} {xs : List Value} (h : PagesH G κ w v ps xs) {i : Nat} (hi : i < ps.length) :
    ∃ a u, iaF 2 v (.int .i64 i) = some (.pointer (some a)) ∧ loadN w a 0 2 = some [.int .i64 ps[i].1, u] ∧ xs[2 * i + 1]? = some u ∧ Held G κ w u (bs ps[i].2) := by
  obtain ⟨h1, h2, h3, h4⟩ := h
  obtain ⟨b, o, h5, h6, _⟩ := h1.idxk (i := i) (by omega)
  obtain ⟨h7, u, h8, h9⟩ := h4 i hi
  obtain ⟨x, hx, hxc⟩ := h6 0 (by omega)
  obtain ⟨y, hy, hyc⟩ := h6 1 (by omega)
  rw [show i * 2 + 0 = 2 * i from by omega, h7] at hx
  rw [show i * 2 + 1 = 2 * i + 1 from by omega, h8] at hy
  cases hx; cases hy
  exact ⟨_, u, h5, loadN2 hxc hyc, h8, h9⟩
theorem PagesH.parts {κ : Nat} {G : Gh} {w : World} {v : Value} {ps : List Pg} {xs : List Value} (h : PagesH G κ w v ps xs) {i : Nat} (hi : i < ps.length) :
    ∃ b o u, iaF 2 v (.int .i64 i) = some (.pointer (some ⟨b, o, none⟩)) ∧ w.cell? ⟨b, o, none⟩ = some (.int .i64 ps[i].1) ∧ w.cell? ⟨b, o + 1, none⟩ = some u ∧ Held G κ w u (bs ps[i].2) := by
  obtain ⟨h1, h2, h3, h4⟩ := h
  obtain ⟨b, o, h5, h6, _⟩ := h1.idxk (i := i) (by omega)
  obtain ⟨h7, u, h8, h9⟩ := h4 i hi
  obtain ⟨x, hx, hxc⟩ := h6 0 (by omega)
  obtain ⟨y, hy, hyc⟩ := h6 1 (by omega)
  rw [show i * 2 + 0 = 2 * i from by omega, h7] at hx
  rw [show i * 2 + 1 = 2 * i + 1 from by omega, h8] at hy
  cases hx; cases hy
  exact ⟨b, o, u, h5, hxc, hyc, h9⟩
theorem stn2 {p : Nat} {t : TypeId} {w : World} {a b x y : Value} (h : w.heap[p]? = some (.cells #[a, b] t (0, 0))) (hx : isCell x = true) (hy : isCell y = true) :
    ∃ w', stnF w 2 (.pointer (some ⟨p, 0, none⟩)) (.agg #[x, y]) = some (undef, w') ∧ w'.heap[p]? = some (.cells #[x, y] t (0, 0)) ∧ Keep (fun b => b = p) w w' := by
  obtain ⟨w1, e1, h1, k1⟩ := storeN_one (i := 0) [y] h (by simp) hx
  obtain ⟨w2, e2, h2, k2⟩ := storeN_one (i := 1) [] h1 (by simp) hy
  refine ⟨w2, ?_, by simpa using h2, k1.trans k2⟩
  have he : storeN w ⟨p, 0, none⟩ 0 [x, y] = some w2 := by rw [e1, e2]; rfl
  simp [stnF, Value.cells, he]
section rules
variable {P : Program} {k : Kont} {e : Env} {w : World} {l : List GOp} {d : Option Nat}
/-- A call of a function value that has captured values. -/
theorem fvalc_rule {x : Operand} {args : Array Operand} {ts : Array TypeId} {ty : TypeId} {f : FuncId} {vs cs : List Value} {Φ : Value → World → Prop} (hf : callable P f = true) (hx : ev e x = .func (.func f) #[] cs.toArray) (hv : args.toList.map (ev e) = vs)
    (hc : Calls P f (vs ++ cs).toArray w (Ret Φ)) (h : ∀ v w', Φ v w' → R (symOps P l k (updO e d v) w')) :
    R (symOps P (⟨d, .hard (H (.call { callee := .value x, args := args, argTypes := ts }) ty), none⟩ :: l) k e w) := by
  refine enter_rule ?_ hc h
  subst hv
  have hargs : args.map (ev e) = (args.toList.map (ev e)).toArray := by rw [← Array.toList_map, Array.toArray_toList]
  simp only [execOp, H, resolve, hx, Deferred.ofValue, Sem.run_bind, Sem.run_pure, Result.andThen_ok, invoke]
  simp [run_callFunc hf, hargs]
end rules
/-- Its number is out of range. -/
def outOf (pages : Nat) (n : Int) : Prop := n < 0 ∨ (pages : Int) ≤ n
instance (pages : Nat) (n : Int) : Decidable (outOf pages n) := by unfold outOf; infer_instance
theorem enterCc {Φ : Value → World → Prop} {Ψ : List PanicEntry → World → Prop} {w : World} (v0 v1 : Value) (h : symS 14 Try.prog F40 ⟨fun e w => Φ (oneOf [e 3]) w, fun _ _ _ => False, fun e w => Φ (oneOf [e 3]) w, Ψ⟩ (upd (upd env0 0 v0) 1 v1) w) : Calls Try.prog 40 #[v0, v1] w (Out Φ Ψ) :=
  calls_sym (args := [v0, v1]) 14 [3] Try.func40 (by kernel_rfl) (by kernel_rfl) (by decide) (by kernel_rfl) (by kernel_rfl) (by simp) F40_eq h
theorem pred_spec {G : Gh} {κ : Nat} {w : World} {q size came B : Nat} {D : Dsk} {n : Int} {u : Value} (h : LogAt G κ w q size came D) (hB : w.cell? ⟨B, 0, none⟩ = some (.pointer (some ⟨q, 0, none⟩))) (hu : isCell u = true) :
    Calls Try.prog 40 #[.agg #[.int .i64 n, u], .pointer (some ⟨B, 0, none⟩)] w (Ret fun v w' => v = .bool (decide (outOf (D.first.length - size - 1) n)) ∧ Grow w w') := by
  apply enterCc
  apply R_in
  simp (maxSteps := 600000) (disch := omega) only [F40, ↓sy1, sy2, sy3, readOK, sy5, sy6, Nat.reduceEqDiff, ↓reduceIte, sy7, sy8, sy9, sya, oneOf, syb, syc, Nat.reduceAdd, Nat.reduceMul, syd, sye, syf, syg, syh, reduceCtorEq, agg2_cells (x := .int .i64 n) rfl hu]
  have hg1 : Grow w (w.alloc (.cells #[.int .i64 n, u] 37)) := (Keep.refl _ _).alloc _
  have hb1 := heap_alloc_new w (.cells #[.int .i64 n, u] 37)
  generalize w.alloc (.cells #[.int .i64 n, u] 37) = w1 at hg1 hb1 ⊢
  refine draw40_0 (fun _ => False) ?_
  have hgd : Grow w w1.drew := hg1.drew
  have hbd : w1.drew.heap[w.heap.size]? = some (.cells #[.int .i64 n, u] 37 (0, 0)) := hb1
  generalize w1.drew = w2 at hgd hbd ⊢
  have hn0 : w2.cell? ⟨w.heap.size, 0, none⟩ = some (.int .i64 n) := by rw [cell_block hbd]; rfl
  have hB2 := hgd.gcell hB
  by_cases h0 : n < 0
  · simp (maxSteps := 600000) (disch := omega) only [PL40_0, ↓sy1, sy2, sy3, readOK, sy5, sy6, Nat.reduceEqDiff, ↓reduceIte, sy7, sy8, sy9, sya, oneOf, syb, syc, Nat.reduceAdd, Nat.reduceMul, syd, sye, syf, syg, syh, reduceCtorEq, hn0, hB2, h0, decide_true, false_implies]
    exact ⟨Keep.refl _ _, R_out ⟨by simp [outOf, h0], hgd⟩⟩
  · simp (maxSteps := 600000) (disch := omega) only [PL40_0, ↓sy1, sy2, sy3, readOK, sy5, sy6, Nat.reduceEqDiff, ↓reduceIte, sy7, sy8, sy9, sya, oneOf, syb, syc, Nat.reduceAdd, Nat.reduceMul, syd, sye, syf, syg, syh, reduceCtorEq, hn0, hB2, h0, decide_false, false_implies]
    refine call0 (pages_spec (h.grow hgd)) ?_
    rintro _ w3 ⟨rfl, hg3⟩
    simp (maxSteps := 600000) (disch := omega) only [↓sy1, sy2, sy3, readOK, sy5, sy6, Nat.reduceEqDiff, ↓reduceIte, sy7, sy8, sy9, sya, oneOf, syb, syc, Nat.reduceAdd, Nat.reduceMul, syd, sye, syf, syg, syh, reduceCtorEq]
    refine ⟨hg3, ?_⟩
    refine R_out ⟨?_, hgd.trans hg3⟩
    simp [outOf, h0]
def anyOut (pages : Nat) (ps : List Pg) : Prop := ∃ p ∈ ps, outOf pages p.1
instance (pages : Nat) (ps : List Pg) : Decidable (anyOut pages ps) := by unfold anyOut; infer_instance
theorem pindex_spec {G : Gh} {κ : Nat} {w : World} {q size came B : Nat} {D : Dsk} {v : Value} {ps : List Pg} {xs : List Value} (h : LogAt G κ w q size came D) (hB : w.cell? ⟨B, 0, none⟩ = some (.pointer (some ⟨q, 0, none⟩))) (hp : PagesH G κ w v ps xs) (hl : ps.length ≤ 1048576) :
    Calls Try.prog 73 #[v, .func (.func 40) #[] #[.pointer (some ⟨B, 0, none⟩)]] w (Ret fun r w' => (¬ anyOut (D.first.length - size - 1) ps ∧ r = .int .i64 (-1) ∨ anyOut (D.first.length - size - 1) ps ∧ ∃ i : Nat, r = .int .i64 i) ∧ Grow w w') := by
  have hcl : callable Try.prog 40 = true := by kernel_rfl
  apply enter73
  apply R_in
  simp (maxSteps := 600000) (disch := omega) only [F73, ↓sy1, sy2, sy3, readOK, sy5, sy6, Nat.reduceEqDiff, ↓reduceIte, sy7, sy8, sy9, sya, oneOf, syb, syc, Nat.reduceAdd, Nat.reduceMul, syd, sye, syf, syg, syh, reduceCtorEq, hp.len]
  refine loop_rule (fun e w' => ∃ i : Nat, i ≤ ps.length ∧ e 8 = .int .i64 i ∧ e 7 = .int .i64 ps.length ∧ e 0 = v ∧ e 1 = .func (.func 40) #[] #[.pointer (some ⟨B, 0, none⟩)] ∧ (∀ j (hj : j < ps.length), j < i → ¬ outOf (D.first.length - size - 1) ps[j].1) ∧ Grow w w') (fun e _ => ps.length - (intOf (e 8)).toNat)
    ⟨0, by omega, by simp [upd, updO, ev], by simp [upd, updO, ev], by simp [upd, updO, ev], by simp [upd, updO, ev], fun j _ hj => by omega, Keep.refl _ _⟩ ?_
  rintro e w1 ⟨i, hi, e8, e7, e0, e1, hgood, hg⟩
  by_cases hlt : i < ps.length
  · obtain ⟨a, u, ha, hld, _, hu⟩ := (hp.grow hg).at hlt
    simp (maxSteps := 600000) (disch := omega) only [F73_L0, ↓sy1, sy2, sy3, readOK, sy5, sy6, Nat.reduceEqDiff, ↓reduceIte, sy7, sy8, sy9, sya, oneOf, syb, syc, Nat.reduceAdd, Nat.reduceMul, syd, sye, syf, syg, syh, reduceCtorEq, e8, e7, e0, e1, Int.ofNat_lt, hlt, decide_true, ha, hld]
    refine fvalc_rule hcl (cs := [.pointer (some ⟨B, 0, none⟩)]) (by simp only [upd_at, Nat.reduceEqDiff, reduceIte, ev_tmp, ev_const, List.map_cons, List.map_nil, e1]) (vs := [.agg #[.int .i64 ps[i].1, u]]) (by simp only [upd_at, Nat.reduceEqDiff, reduceIte, ev_tmp, ev_const, List.map_cons, List.map_nil]) (pred_spec (h.grow hg) (hg.gcell hB) hu.1.isCell) ?_
    rintro _ w2 ⟨rfl, hg2⟩
    by_cases h5 : outOf (D.first.length - size - 1) ps[i].1
    · simp (maxSteps := 600000) (disch := omega) only [↓sy1, sy2, sy3, readOK, sy5, sy6, Nat.reduceEqDiff, ↓reduceIte, sy7, sy8, sy9, sya, oneOf, syb, syc, Nat.reduceAdd, Nat.reduceMul, syd, sye, syf, syg, syh, reduceCtorEq, e8, e7, e0, e1, h5, decide_true]
      exact R_out ⟨.inr ⟨⟨_, List.getElem_mem hlt, h5⟩, i, rfl⟩, hg.trans hg2⟩
    · simp (maxSteps := 600000) (disch := omega) only [↓sy1, sy2, sy3, readOK, sy5, sy6, Nat.reduceEqDiff, ↓reduceIte, sy7, sy8, sy9, sya, oneOf, syb, syc, Nat.reduceAdd, Nat.reduceMul, syd, sye, syf, syg, syh, reduceCtorEq, e8, e7, e0, e1, h5, decide_false]
      refine R_out ⟨⟨i + 1, by omega, rfl, fun j hj hji => ?_, hg.trans hg2⟩, ?_⟩
      · by_cases hj' : j = i
        · subst hj'; exact h5
        · exact hgood j hj (by omega)
      · simp only [intOf]; omega
  · simp (maxSteps := 600000) (disch := omega) only [F73_L0, ↓sy1, sy2, sy3, readOK, sy5, sy6, Nat.reduceEqDiff, ↓reduceIte, sy7, sy8, sy9, sya, oneOf, syb, syc, Nat.reduceAdd, Nat.reduceMul, syd, sye, syf, syg, syh, reduceCtorEq, e8, e7, e0, e1, Int.ofNat_lt, hlt, decide_false]
    refine R_out ⟨.inl ?_, hg⟩
    rintro ⟨p, hp, ho⟩
    obtain ⟨j, hj, rfl⟩ := List.getElem_of_mem hp
    exact hgood j hj (by omega) ho
theorem pany_spec {G : Gh} {κ : Nat} {w : World} {q size came B : Nat} {D : Dsk} {v : Value} {ps : List Pg} {xs : List Value} (h : LogAt G κ w q size came D) (hB : w.cell? ⟨B, 0, none⟩ = some (.pointer (some ⟨q, 0, none⟩))) (hp : PagesH G κ w v ps xs) (hl : ps.length ≤ 1048576) :
    Calls Try.prog 39 #[v, .func (.func 40) #[] #[.pointer (some ⟨B, 0, none⟩)]] w (Ret fun r w' => r = .bool (decide (anyOut (D.first.length - size - 1) ps)) ∧ Grow w w') := by
  apply enter39
  apply R_in
  simp (maxSteps := 600000) (disch := omega) only [F39, ↓sy1, sy2, sy3, readOK, sy5, sy6, Nat.reduceEqDiff, ↓reduceIte, sy7, sy8, sy9, sya, oneOf, syb, syc, Nat.reduceAdd, Nat.reduceMul, syd, sye, syf, syg, syh, reduceCtorEq]
  refine call0 (pindex_spec h hB hp hl) ?_
  rintro v w1 ⟨⟨hall, rfl⟩ | ⟨hno, i, rfl⟩, hg⟩
  · simp (maxSteps := 600000) (disch := omega) only [↓sy1, sy2, sy3, readOK, sy5, sy6, Nat.reduceEqDiff, ↓reduceIte, sy7, sy8, sy9, sya, oneOf, syb, syc, Nat.reduceAdd, Nat.reduceMul, syd, sye, syf, syg, syh, reduceCtorEq, show ¬ ((0 : Int) ≤ -1) from by omega, decide_false]
    exact R_out ⟨by simp [hall], hg⟩
  · simp (maxSteps := 600000) (disch := omega) only [↓sy1, sy2, sy3, readOK, sy5, sy6, Nat.reduceEqDiff, ↓reduceIte, sy7, sy8, sy9, sya, oneOf, syb, syc, Nat.reduceAdd, Nat.reduceMul, syd, sye, syf, syg, syh, reduceCtorEq, show ((0 : Int) ≤ (i : Int)) from by omega, decide_true]
    exact R_out ⟨by simp [hno], hg⟩
end Go.Proofs.Ytneehlkofcdhoaa
