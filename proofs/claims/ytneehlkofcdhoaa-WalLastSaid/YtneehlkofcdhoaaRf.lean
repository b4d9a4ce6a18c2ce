/- The reference's disk: how it lies in memory; what is done with it. -/
import Derived.Test.YtneehlkofcdhoaaIm
namespace Go.Proofs.Ytneehlkofcdhoaa
open Go
set_option linter.unusedSimpArgs false
open Go.RowKit (intOf)
theorem elemP : ElemIs Try.prog 104 124 3 40 (.agg #[.bool false, .int .i64 0, .slice none 0 0]) := elem_of (by kernel_rfl)
def HasK (k : Nat) (G : Gh) (w : World) (v : Value) (xs : List Value) : Prop := Has k w v xs ∧ FixV G v xs.length
theorem HasK.ext {k : Nat} {κ : Nat → Prop} {G G' : Gh} {w w' : World} {v : Value} {xs : List Value} (h : HasK k G w v xs) (hx : Ext κ G w G' w') : HasK k G' w' v xs := by
  obtain ⟨h1, h2⟩ := h
  refine ⟨?_, fun b o l c hv hn => ?_⟩
  · rcases h1 with ⟨b, o, n, c, rfl, h3, h4, h5⟩ | h1
    · refine .inl ⟨b, o, n, c, rfl, h3, h4, fun j u hj => ?_⟩
      have hc := h5 j u hj
      have hlt : j < xs.length := (List.getElem?_eq_some_iff.1 hj).1
      have := h2 b o n c rfl (by omega)
      exact hx.pre b (o + j) u (World.block_lt_of_cell? w _ hc) (by omega) hc
    · exact .inr h1
  · rcases h1 with ⟨b', o', n', c', hv', h3, h4, h5⟩ | ⟨rfl, h1⟩
    · rw [hv] at hv'
      cases hv'
      have := h2 b o l c hv hn
      have hb : b < w.heap.size := World.block_lt_of_cell? w _ (h5 0 _ (List.getElem?_eq_getElem (l := xs) hn))
      exact Nat.le_trans this (hx.fix b hb)
    · simp at hn
theorem own_fixk {k B : Nat} {t : TypeId} {w : World} {u : Value} {n : Nat} {xs : List Value} {G : Gh} (ho : w.ownsRow B t k u n xs) (hG : ∀ b, B ≤ b → maxLen * k ≤ G.fix b) : HasK k G w u xs := by
  refine ⟨Has.own ho, fun b o l c hv _ => ?_⟩
  obtain ⟨hl, ⟨rfl, _⟩ | ⟨g, cap, cur, rfl, hB, _, hc, hm, _⟩⟩ := ho
  · cases hv
  · cases hv
    have := hG b hB
    have h2 : n * k ≤ maxLen * k := Nat.mul_le_mul_right k (Nat.le_trans hc hm)
    omega
theorem own_keepk {k B n : Nat} {el : TypeId} {w w' : World} {v : Value} {xs : List Value} {S : Nat → Prop} (h : w.ownsRow B el k v n xs) (hk : Keep S w w') (hs : ∀ b, v.ownBlock = some b → ¬ S b) : w'.ownsRow B el k v n xs := by
  obtain ⟨h1, h2 | ⟨g, cap, cur, rfl, h2, h3, h4⟩⟩ := h
  · exact ⟨h1, .inl h2⟩
  · exact ⟨h1, .inr ⟨g, cap, cur, rfl, h2, hk.heap h3 (hs g rfl), h4⟩⟩
theorem Has.new3 {w : World} {x y z : Value} {t : TypeId} : Has 3 (w.alloc (.cells #[x, y, z] t)) (.slice (some ⟨w.heap.size, 0, none⟩) 1 1) [x, y, z] := by
  refine .inl ⟨w.heap.size, 0, 1, 1, rfl, rfl, Nat.le_refl _, fun j u hj => ?_⟩
  rw [cell_block (heap_alloc_new w _)]
  match j, hj with
  | 0, hj => simpa using hj
  | 1, hj => simpa using hj
  | 2, hj => simpa using hj
theorem agg3_cells {x y z : Value} (hx : isCell x = true) (hy : isCell y = true) (hz : isCell z = true) : (Value.agg #[x, y, z]).cells = #[x, y, z] := by
  simp [Value.cells, isCell_cells hx, isCell_cells hy, isCell_cells hz]
theorem fill_of3 {e : Env} {a b c : Value} {o s : Nat} {x : Operand} : fillV e #[a, b, c] [(o, (s, x))] = fillF #[a, b, c] [(o, s, ev e x)] := fill_all _ _
theorem fillF_3 {a b c x y z : Value} (hx : isCell x = true) (hy : isCell y = true) (hz : isCell z = true) : fillF #[a, b, c] [(0, 3, .agg #[x, y, z])] = some #[x, y, z] := by
  simp [fillF, agg3_cells hx hy hz, Array.zipIdx]
theorem fillF_1of3 {a b c x : Value} (hx : isCell x = true) : fillF #[a, b, c] [(0, 1, x)] = some #[x, b, c] := by
  rw [fillF_cell hx (by simp), fillF_nil]; simp
theorem fillF_2of3 {a b c x y : Value} (hx : isCell x = true) (hy : isCell y = true) : fillF #[a, b, c] [(1, 1, x), (2, 1, y)] = some #[a, x, y] := by
  rw [fillF_cell hx (by simp), fillF_cell hy (by simp), fillF_nil]; simp
theorem loadN3 {w : World} {p o : Nat} {a b c : Value} (h0 : w.cell? ⟨p, o, none⟩ = some a) (h1 : w.cell? ⟨p, o + 1, none⟩ = some b) (h2 : w.cell? ⟨p, o + 2, none⟩ = some c) : loadN w ⟨p, o, none⟩ 0 3 = some [a, b, c] := by
  simp [loadN, add_lit, h0, h1, h2]
theorem loadN3b {w : World} {p : Nat} {a b c : Value} {t : TypeId} {f : Nat × Nat} (h : w.heap[p]? = some (.cells #[a, b, c] t f)) : loadN w ⟨p, 0, none⟩ 0 3 = some [a, b, c] :=
  loadN3 (by rw [cell_block h]; rfl) (by rw [cell_block h]; rfl) (by rw [cell_block h]; rfl)

/-- An operation, as the reference notes it: three cells. -/
def ROp (G : Gh) (w : World) (f n u : Value) : DOp → Prop
  | .wr m b => f = .bool false ∧ n = .int .i64 m ∧ HasFB G w u b
  | .fl => f = .bool true ∧ n = .int .i64 0 ∧ u = .slice none 0 0
def ROps (G : Gh) (w : World) : List Value → List DOp → Prop
  | [], [] => True
  | f :: n :: u :: vs, o :: os => ROp G w f n u o ∧ ROps G w vs os
  | _, _ => False
section
variable {κ : Nat → Prop} {G G' : Gh} {w w' : World}
theorem ROp.ext (hx : Ext κ G w G' w') {f n u : Value} {o : DOp} (h : ROp G w f n u o) : ROp G' w' f n u o := by
  cases o with
  | wr n b => exact ⟨h.1, h.2.1, h.2.2.ext hx⟩
  | fl => exact h
theorem ROp.cell {f n u : Value} {o : DOp} (h : ROp G w f n u o) : isCell f = true ∧ isCell n = true ∧ isCell u = true := by
  cases o with
  | wr n b => obtain ⟨rfl, rfl, h⟩ := h; exact ⟨rfl, rfl, h.1.isCell⟩
  | fl => obtain ⟨rfl, rfl, rfl⟩ := h; exact ⟨rfl, rfl, rfl⟩
theorem ROps.ext (hx : Ext κ G w G' w') : ∀ {vs : List Value} {os : List DOp}, ROps G w vs os → ROps G' w' vs os
  | [], [], _ => trivial
  | _ :: _ :: _ :: _, _ :: _, ⟨h1, h2⟩ => ⟨h1.ext hx, ROps.ext hx h2⟩
theorem ROps.length : ∀ {vs : List Value} {os : List DOp}, ROps G w vs os → vs.length = os.length * 3
  | [], [], _ => rfl
  | _ :: _ :: _ :: _, _ :: _, ⟨_, h⟩ => by simp [ROps.length h]; omega
theorem ROps.snoc : ∀ {vs : List Value} {os : List DOp} {f n u : Value} {o : DOp}, ROps G w vs os → ROp G w f n u o → ROps G w (vs ++ [f, n, u]) (os ++ [o])
  | [], [], _, _, _, _, _, h => ⟨h, trivial⟩
  | _ :: _ :: _ :: _, _ :: _, _, _, _, _, ⟨h1, h2⟩, h => ⟨h1, ROps.snoc h2 h⟩
theorem ROps.cell : ∀ {vs : List Value} {os : List DOp}, ROps G w vs os → ∀ u ∈ vs, isCell u = true
  | [], _, _, u, hu => by cases hu
  | f :: n :: v :: vs, o :: os, ⟨h1, h2⟩, u, hu => by
    obtain ⟨c1, c2, c3⟩ := h1.cell
    simp only [List.mem_cons] at hu
    rcases hu with rfl | rfl | rfl | hu
    · exact c1
    · exact c2
    · exact c3
    · exact ROps.cell h2 u hu
theorem ROps.get : ∀ {vs : List Value} {os : List DOp}, ROps G w vs os → ∀ i (h : i < os.length), ∃ f n u, vs[i * 3]? = some f ∧ vs[i * 3 + 1]? = some n ∧ vs[i * 3 + 2]? = some u ∧ ROp G w f n u os[i]
  | [], [], _, i, h => absurd h (Nat.not_lt_zero _)
  | f :: n :: u :: _, _ :: _, ⟨h, _⟩, 0, _ => ⟨f, n, u, rfl, rfl, rfl, h⟩
  | _ :: _ :: _ :: _, _ :: _, ⟨_, h⟩, i + 1, hi => by
    obtain ⟨f, n, u, h1, h2, h3, h4⟩ := ROps.get h i (by simpa using hi)
    refine ⟨f, n, u, ?_, ?_, ?_, by simpa using h4⟩
    · rw [show (i + 1) * 3 = i * 3 + 1 + 1 + 1 from by omega]; simpa using h1
    · rw [show (i + 1) * 3 + 1 = (i * 3 + 1) + 1 + 1 + 1 from by omega]; simpa using h2
    · rw [show (i + 1) * 3 + 2 = (i * 3 + 2) + 1 + 1 + 1 from by omega]; simpa using h3
theorem ROps.take : ∀ {vs : List Value} {os : List DOp} (k : Nat), ROps G w vs os → ROps G w (vs.take (k * 3)) (os.take k)
  | [], [], k, _ => by simp [ROps]
  | _ :: _ :: _ :: _, _ :: _, 0, _ => by simp [ROps]
  | f :: n :: u :: vs, o :: os, k + 1, ⟨h1, h2⟩ => by
    rw [show (k + 1) * 3 = k * 3 + 1 + 1 + 1 from by omega]
    exact ⟨h1, ROps.take k h2⟩
end
/-- The operation at a place of the row: its three cells. -/
theorem ROps.at {G : Gh} {w : World} {v : Value} {xs : List Value} {os : List DOp} (h : Has 3 w v xs) (h' : ROps G w xs os) {i : Nat} (hi : i < os.length) :
    ∃ b o f n u, iaF 3 v (.int .i64 i) = some (.pointer (some ⟨b, o, none⟩)) ∧ w.cell? ⟨b, o, none⟩ = some f ∧ w.cell? ⟨b, o + 1, none⟩ = some n ∧ w.cell? ⟨b, o + 2, none⟩ = some u ∧ ROp G w f n u os[i] := by
  have hl := h'.length
  obtain ⟨b, o, h1, h2, _⟩ := h.idxk (i := i) (by omega)
  obtain ⟨f, n, u, h3, h4, h5, h6⟩ := h'.get i hi
  obtain ⟨f', h7, h8⟩ := h2 0 (by omega)
  obtain ⟨n', h9, h10⟩ := h2 1 (by omega)
  obtain ⟨u', h11, h12⟩ := h2 2 (by omega)
  rw [Nat.add_zero, h3] at h7
  rw [h4] at h9
  rw [h5] at h11
  cases h7; cases h9; cases h11
  exact ⟨b, o, f, n, u, h1, h8, h10, h12, h6⟩

/-- The reference's disk at block p, of owner κ. -/
def RefAt (G : Gh) (κ : Nat) (w : World) (p : Nat) (D : Dsk) : Prop :=
  D.Ok ∧ D.ops.length ≤ 1000000 ∧ ∃ vf vl xs, w.heap[p]? = some (.cells #[vf, vl] 106 (0, 0)) ∧ G.own p = κ ∧ G.fix p = 0 ∧ RowsAt G w vf D.first ∧ HasK 3 G w vl xs ∧ ROps G w xs D.ops
theorem RefAt.ok {G : Gh} {κ : Nat} {w : World} {p : Nat} {D : Dsk} (h : RefAt G κ w p D) : D.Ok := h.1
theorem RefAt.ext {K : Nat → Prop} {G G' : Gh} {κ : Nat} {w w' : World} {p : Nat} {D : Dsk} (h : RefAt G κ w p D) (hx : Ext K G w G' w') (hk : ¬ K κ) : RefAt G' κ w' p D := by
  obtain ⟨ho, hl, vf, vl, xs, h1, h2, h3, h4, h5, h6⟩ := h
  have hp := hx.lt h1
  exact ⟨ho, hl, vf, vl, xs, hx.heap h1 (by rw [h2]; exact hk), by rw [hx.own p hp]; exact h2, by rw [hx.fixe p hp (by rw [h2]; exact hk)]; exact h3, h4.ext hx, h5.ext hx, h6.ext hx⟩
theorem RefAt.grow {G : Gh} {κ : Nat} {w w' : World} {p : Nat} {D : Dsk} (h : RefAt G κ w p D) (hg : Grow w w') : RefAt G κ w' p D := h.ext (K := fun _ => False) (.grow hg) id
theorem RefAt.lt {G : Gh} {κ : Nat} {w : World} {p : Nat} {D : Dsk} (h : RefAt G κ w p D) : p < w.heap.size := by
  obtain ⟨_, _, vf, vl, vs, hp, _⟩ := h; exact (Array.getElem?_eq_some_iff.1 hp).1

theorem look_ok {G : Gh} {κ : Nat} {w : World} {p : Nat} {n : Nat} {D : Dsk} (h : RefAt G κ w p D) (hn : n < D.first.length) :
    Calls Try.prog 84 #[.pointer (some ⟨p, 0, none⟩), .int .i64 n] w (Ret fun v w' => v = .int .i64 0 ∧ w' = w) := by
  obtain ⟨hok, hl, vf, vl, xs, hp, ho, hf, h1, h2, h3⟩ := h
  have hc0 : w.cell? ⟨p, 0, none⟩ = some vf := by rw [cell_block hp]; rfl
  apply enter84
  apply R_in
  simp (maxSteps := 600000) (disch := omega) only [F84, ↓sy1, sy2, sy3, readOK, sy5, sy6, Nat.reduceEqDiff, ↓reduceIte, sy7, sy8, sy9, sya, oneOf, syb, syc, Nat.reduceAdd, Nat.reduceMul, syd, sye, syf, syg, syh, reduceCtorEq, hc0, h1.has.len, show ¬ ((n : Int) < 0) from by omega, show ¬ ((D.first.length : Int) ≤ n) from by omega, decide_false]
  exact R_out trivial
theorem look_bad {G : Gh} {κ : Nat} {w : World} {p : Nat} {n : Int} {D : Dsk} (h : RefAt G κ w p D) (hn : n < 0 ∨ D.first.length ≤ n) :
    Calls Try.prog 84 #[.pointer (some ⟨p, 0, none⟩), .int .i64 n] w (Ret fun v w' => v = .int .i64 2 ∧ w' = w) := by
  obtain ⟨hok, hl, vf, vl, xs, hp, ho, hf, h1, h2, h3⟩ := h
  have hc0 : w.cell? ⟨p, 0, none⟩ = some vf := by rw [cell_block hp]; rfl
  apply enter84
  apply R_in
  by_cases h0 : n < 0
  · simp (maxSteps := 600000) (disch := omega) only [F84, ↓sy1, sy2, sy3, readOK, sy5, sy6, Nat.reduceEqDiff, ↓reduceIte, sy7, sy8, sy9, sya, oneOf, syb, syc, Nat.reduceAdd, Nat.reduceMul, syd, sye, syf, syg, syh, reduceCtorEq, h0, decide_true]
    exact R_out trivial
  · simp (maxSteps := 600000) (disch := omega) only [F84, ↓sy1, sy2, sy3, readOK, sy5, sy6, Nat.reduceEqDiff, ↓reduceIte, sy7, sy8, sy9, sya, oneOf, syb, syc, Nat.reduceAdd, Nat.reduceMul, syd, sye, syf, syg, syh, reduceCtorEq, hc0, h1.has.len, h0, show ((D.first.length : Int) ≤ n) from by omega, decide_false, decide_true]
    exact R_out trivial
theorem look_nil {w : World} {n : Int} : Calls Try.prog 84 #[.pointer none, .int .i64 n] w (Ret fun v w' => v = .int .i64 1 ∧ w' = w) := by
  apply enter84
  apply R_in
  simp (maxSteps := 600000) (disch := omega) only [F84, ↓sy1, sy2, sy3, readOK, sy5, sy6, Nat.reduceEqDiff, ↓reduceIte, sy7, sy8, sy9, sya, oneOf, syb, syc, Nat.reduceAdd, Nat.reduceMul, syd, sye, syf, syg, syh, reduceCtorEq]
  exact R_out trivial

theorem rdo_spec {G : Gh} {κ : Nat} {w : World} {p : Nat} {D : Dsk} {o : DOp} {f n u : Value} (h : RefAt G κ w p D) (ho : ROp G w f n u o) (hok : (D.add o).Ok) (hl : D.ops.length < 1000000) :
    Calls Try.prog 85 #[.pointer (some ⟨p, 0, none⟩), .agg #[f, n, u]] w (Ret fun _ w' => ∃ G', RefAt G' κ w' p (D.add o) ∧ Ext (fun c => c = κ) G w G' w') := by
  have hpl := h.lt
  obtain ⟨_, _, vf, vl, xs, hp, hown, hf, h1, h2, h3⟩ := h
  obtain ⟨c1, c2, c3⟩ := ho.cell
  have hlen := h3.length
  apply enter85
  apply R_in
  have hg1 : Grow w (w.alloc (.cells #[f, n, u] 124)) := (Keep.refl _ _).alloc _
  have hb1 := heap_alloc_new w (.cells #[f, n, u] 124)
  generalize hw1 : w.alloc (.cells #[f, n, u] 124) = w1 at hg1 hb1
  have hp1 := hg1.gheap hp
  have hc1 : w1.cell? ⟨p, 1, none⟩ = some vl := by rw [cell_block hp1]; rfl
  simp (maxSteps := 600000) (disch := omega) only [F85, ↓sy1, sy2, sy3, readOK, sy5, sy6, Nat.reduceEqDiff, ↓reduceIte, sy7, sy8, sy9, sya, oneOf, syb, syc, Nat.reduceAdd, Nat.reduceMul, syd, sye, syf, syg, syh, reduceCtorEq, agg3_cells c1 c2 c3, hw1, hc1]
  refine app_own elemP (by simp only [upd_at, Nat.reduceEqDiff, reduceIte, ev_tmp, ev_const, List.map_cons, List.map_nil]) (by simp only [upd_at, Nat.reduceEqDiff, reduceIte, ev_tmp, ev_const, List.map_cons, List.map_nil]) (World.ownsRow_nil w1 w.heap.size _ 3) (h2.1.grow hg1) (m := D.ops.length) hlen h3.cell (by omega) (by omega) hg1.size ?_
  intro v2 w2 ho2 hg2
  have hg2' : Grow w1 w2 := (Keep.grown hg2).mono (fun b _ h => by simp [Value.ownBlock] at h)
  have hl3 := loadN3b (hg2'.gheap hb1)
  rw [Nat.zero_add, List.nil_append] at ho2
  simp (maxSteps := 600000) (disch := omega) only [↓sy1, sy2, sy3, readOK, sy5, sy6, Nat.reduceEqDiff, ↓reduceIte, sy7, sy8, sy9, sya, oneOf, syb, syc, Nat.reduceAdd, Nat.reduceMul, syd, sye, syf, syg, syh, reduceCtorEq, hl3, fill_of3, List.map_cons, List.map_nil, fillF_3 c1 c2 c3]
  have hg3 : Grow w2 (w2.alloc (.cells #[f, n, u] 124)) := (Keep.refl _ _).alloc _
  refine app_own elemP (by simp only [upd_at, Nat.reduceEqDiff, reduceIte, ev_tmp, ev_const, List.map_cons, List.map_nil]) (by simp only [upd_at, Nat.reduceEqDiff, reduceIte, ev_tmp, ev_const, List.map_cons, List.map_nil]) (own_keepk ho2 hg3 (fun _ _ => id)) Has.new3 (m := 1) rfl (by simpa using ⟨c1, c2, c3⟩) (by omega) (by omega) (Nat.le_trans (hg1.trans hg2').size hg3.size) ?_
  intro v4 w4 ho4 hg4
  have hb4 := World.ownsRow.lt ho4
  have hgw : Grow w w4 := ((hg1.trans hg2').trans hg3).then (Keep.grown hg4) (fun b hb h => by
    obtain ⟨hbb, _⟩ := World.ownsRow.lt ho2 b h.symm; omega)
  have hp4 := hgw.gheap hp
  obtain ⟨w5, hst, hp5, hk5⟩ := cell_store hp4 (i := 1) (by simp) (u := v4) (Has.own ho4).isCell
  simp (maxSteps := 600000) (disch := omega) only [↓sy1, sy2, sy3, readOK, sy5, sy6, Nat.reduceEqDiff, ↓reduceIte, sy7, sy8, sy9, sya, oneOf, syb, syc, Nat.reduceAdd, Nat.reduceMul, syd, sye, syf, syg, syh, reduceCtorEq, hst]
  have hx1 : Ext0 G w (G.upto w.heap.size (fun _ => κ) (fun _ => maxLen * 3)) w4 := .upto hgw _ _
  have hx2 : Ext (fun c => c = κ) (G.upto w.heap.size (fun _ => κ) (fun _ => maxLen * 3)) w4 (G.upto w.heap.size (fun _ => κ) (fun _ => maxLen * 3)) w5 := .on0 hk5 (by simp [Gh.upto, hpl, hown]) (by simp [Gh.upto, hpl, hf])
  refine R_out ⟨_, ⟨hok, by simp [Dsk.add]; omega, vf, v4, xs ++ [f, n, u], by simpa using hp5, by simp [Gh.upto, hpl, hown], by simp [Gh.upto, hpl, hf], (h1.ext hx1).ext hx2, ?_, ((h3.ext hx1).snoc (ho.ext hx1)).ext hx2⟩, (hx1.mono (fun _ h => h.elim)).trans hx2⟩
  exact own_fixk (own_keepk ho4 hk5 (fun b hb hbp => by
      have := (hb4 b hb).1; omega)) (fun b hb => by simp [Gh.upto, Nat.not_lt.2 hb])
theorem rwrite_spec {G : Gh} {κ : Nat} {w : World} {p n : Nat} {D : Dsk} {u : Value} {b : List UInt8} (h : RefAt G κ w p D) (hn : n < D.first.length) (hb : b.length = 512) (hu : HasB w u b) (hl : D.ops.length < 1000000) :
    Calls Try.prog 55 #[.pointer (some ⟨p, 0, none⟩), .int .i64 n, u] w (Ret fun v w' => v = .int .i64 0 ∧ ∃ G', RefAt G' κ w' p (D.add (.wr n b)) ∧ Ext (fun c => c = κ) G w G' w') := by
  apply enter55
  apply R_in
  simp (maxSteps := 600000) (disch := omega) only [F55, ↓sy1, sy2, sy3, readOK, sy5, sy6, Nat.reduceEqDiff, ↓reduceIte, sy7, sy8, sy9, sya, oneOf, syb, syc, Nat.reduceAdd, Nat.reduceMul, syd, sye, syf, syg, syh, reduceCtorEq]
  refine call0 (look_ok h hn) ?_
  rintro v w1 ⟨rfl, rfl⟩
  simp (maxSteps := 600000) (disch := omega) only [↓sy1, sy2, sy3, readOK, sy5, sy6, Nat.reduceEqDiff, ↓reduceIte, sy7, sy8, sy9, sya, oneOf, syb, syc, Nat.reduceAdd, Nat.reduceMul, syd, sye, syf, syg, syh, reduceCtorEq, hu.lenB, show ((b.length : Int) = 512) from by omega]
  refine call0 (copy_spec u _ w1 hu (by omega)) ?_
  rintro v w2 ⟨hv, hg⟩
  simp (maxSteps := 600000) (disch := omega) only [↓sy1, sy2, sy3, readOK, sy5, sy6, Nat.reduceEqDiff, ↓reduceIte, sy7, sy8, sy9, sya, oneOf, syb, syc, Nat.reduceAdd, Nat.reduceMul, syd, sye, syf, syg, syh, reduceCtorEq, fill_gen, fillF_2of3 (a := .bool false) (b := .int .i64 0) (c := .slice none 0 0) (show isCell (.int .i64 (n : Int)) = true from rfl) (Has.own hv).isCell, Option.map_some]
  have hx1 : Ext0 G w1 (G.upto w1.heap.size (fun _ => 0) (fun _ => maxLen)) w2 := .upto hg _ _
  have hop : ROp (G.upto w1.heap.size (fun _ => 0) (fun _ => maxLen)) w2 (.bool false) (.int .i64 n) v (.wr n b) := ⟨rfl, rfl, own_fix hv (fun b hb => by simp [Gh.upto, Nat.not_lt.2 hb])⟩
  refine call0 (rdo_spec (h.ext hx1 id) hop (h.ok.wr hn hb) hl) ?_
  rintro _ w3 ⟨G3, hd, hx3⟩
  simp (maxSteps := 600000) (disch := omega) only [↓sy1, sy2, sy3, readOK, sy5, sy6, Nat.reduceEqDiff, ↓reduceIte, sy7, sy8, sy9, sya, oneOf, syb, syc, Nat.reduceAdd, Nat.reduceMul, syd, sye, syf, syg, syh, reduceCtorEq]
  exact R_out ⟨G3, hd, (hx1.mono (fun _ h => h.elim)).trans hx3⟩
theorem rwrite_bad {G : Gh} {κ : Nat} {w : World} {p : Nat} {n : Int} {D : Dsk} {u : Value} {b : List UInt8} (h : RefAt G κ w p D) (hu : HasB w u b) :
    (n < 0 ∨ D.first.length ≤ n → Calls Try.prog 55 #[.pointer (some ⟨p, 0, none⟩), .int .i64 n, u] w (Ret fun v w' => v = .int .i64 2 ∧ w' = w)) ∧
    (0 ≤ n → n < D.first.length → b.length ≠ 512 → Calls Try.prog 55 #[.pointer (some ⟨p, 0, none⟩), .int .i64 n, u] w (Ret fun v w' => v = .int .i64 3 ∧ w' = w)) := by
  refine ⟨fun hn => ?_, fun hn0 hn1 hb => ?_⟩
  · apply enter55
    apply R_in
    simp (maxSteps := 600000) (disch := omega) only [F55, ↓sy1, sy2, sy3, readOK, sy5, sy6, Nat.reduceEqDiff, ↓reduceIte, sy7, sy8, sy9, sya, oneOf, syb, syc, Nat.reduceAdd, Nat.reduceMul, syd, sye, syf, syg, syh, reduceCtorEq]
    refine call0 (look_bad h hn) ?_
    rintro v w1 ⟨rfl, rfl⟩
    simp (maxSteps := 600000) (disch := omega) only [↓sy1, sy2, sy3, readOK, sy5, sy6, Nat.reduceEqDiff, ↓reduceIte, sy7, sy8, sy9, sya, oneOf, syb, syc, Nat.reduceAdd, Nat.reduceMul, syd, sye, syf, syg, syh, reduceCtorEq, show ¬ ((2 : Int) = 0) from by omega, decide_false]
    exact R_out trivial
  · obtain ⟨m, rfl⟩ : ∃ m : Nat, n = m := ⟨n.toNat, by omega⟩
    apply enter55
    apply R_in
    simp (maxSteps := 600000) (disch := omega) only [F55, ↓sy1, sy2, sy3, readOK, sy5, sy6, Nat.reduceEqDiff, ↓reduceIte, sy7, sy8, sy9, sya, oneOf, syb, syc, Nat.reduceAdd, Nat.reduceMul, syd, sye, syf, syg, syh, reduceCtorEq]
    refine call0 (look_ok h (by omega)) ?_
    rintro v w1 ⟨rfl, rfl⟩
    simp (maxSteps := 600000) (disch := omega) only [↓sy1, sy2, sy3, readOK, sy5, sy6, Nat.reduceEqDiff, ↓reduceIte, sy7, sy8, sy9, sya, oneOf, syb, syc, Nat.reduceAdd, Nat.reduceMul, syd, sye, syf, syg, syh, reduceCtorEq, hu.lenB, show ¬ ((b.length : Int) = 512) from by omega, decide_false]
    exact R_out trivial
theorem rflush_spec {G : Gh} {κ : Nat} {w : World} {p : Nat} {D : Dsk} (h : RefAt G κ w p D) (hl : D.ops.length < 1000000) :
    Calls Try.prog 56 #[.pointer (some ⟨p, 0, none⟩)] w (Ret fun v w' => v = .int .i64 0 ∧ ∃ G', RefAt G' κ w' p (D.add .fl) ∧ Ext (fun c => c = κ) G w G' w') := by
  apply enter56
  apply R_in
  simp (maxSteps := 600000) (disch := omega) only [F56, ↓sy1, sy2, sy3, readOK, sy5, sy6, Nat.reduceEqDiff, ↓reduceIte, sy7, sy8, sy9, sya, oneOf, syb, syc, Nat.reduceAdd, Nat.reduceMul, syd, sye, syf, syg, syh, reduceCtorEq, fill_of3, fillF_1of3 (a := .bool false) (b := .int .i64 0) (c := .slice none 0 0) (show isCell (.bool true) = true from rfl), Option.map_some]
  refine call0 (rdo_spec (o := .fl) h ⟨rfl, rfl, rfl⟩ h.ok.fl hl) ?_
  rintro _ w3 ⟨G3, hd, hx3⟩
  simp (maxSteps := 600000) (disch := omega) only [↓sy1, sy2, sy3, readOK, sy5, sy6, Nat.reduceEqDiff, ↓reduceIte, sy7, sy8, sy9, sya, oneOf, syb, syc, Nat.reduceAdd, Nat.reduceMul, syd, sye, syf, syg, syh, reduceCtorEq]
  exact R_out ⟨G3, hd, hx3⟩
end Go.Proofs.Ytneehlkofcdhoaa
