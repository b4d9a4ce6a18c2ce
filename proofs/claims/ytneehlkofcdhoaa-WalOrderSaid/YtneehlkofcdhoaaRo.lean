/- The reference's log: a fork of its disk, what it tells, open over an empty disk. -/
import Derived.Test.YtneehlkofcdhoaaLl
namespace Go.Proofs.Ytneehlkofcdhoaa
open Go
set_option linter.unusedSimpArgs false
open Go.RowKit (intOf)
theorem rfork_nil {w : World} : Calls Try.prog 67 #[.pointer none] w (Ret fun v w' => v = .pointer none ∧ w' = w) := by
  apply enter67
  apply R_in
  simp (maxSteps := 600000) (disch := omega) only [F67, ↓sy1, sy2, sy3, readOK, sy5, sy6, Nat.reduceEqDiff, ↓reduceIte, sy7, sy8, sy9, sya, oneOf, syb, syc, Nat.reduceAdd, Nat.reduceMul, syd, sye, syf, syg, syh, reduceCtorEq]
  exact R_out trivial
theorem rfork_spec {G : Gh} {κ : Nat} {w : World} {p : Nat} {D : Dsk} (κ' : Nat) (h : RefAt G κ w p D) :
    Calls Try.prog 67 #[.pointer (some ⟨p, 0, none⟩)] w (Ret fun v w' => ∃ q G', v = .pointer (some ⟨q, 0, none⟩) ∧ w.heap.size ≤ q ∧ RefAt G' κ' w' q D ∧ Ext0 G w G' w') := by
  obtain ⟨hok, hl, vf, vl, xs, hp, hown, hf, h1, h2, h3⟩ := h
  have hcf := h1.has.choose_spec.1.isCell
  have hcl := h2.1.isCell
  apply enter67
  apply R_in
  simp (maxSteps := 600000) (disch := omega) only [F67, ↓sy1, sy2, sy3, readOK, sy5, sy6, Nat.reduceEqDiff, ↓reduceIte, sy7, sy8, sy9, sya, oneOf, syb, syc, Nat.reduceAdd, Nat.reduceMul, syd, sye, syf, syg, syh, reduceCtorEq]
  refine draw67_0 (fun _ => False) ?_
  have hgd : Grow w w.drew := (Keep.refl _ _).drew
  generalize w.drew = w1 at hgd ⊢
  have hp1 := hgd.gheap hp
  have hc0 : w1.cell? ⟨p, 0, none⟩ = some vf := by rw [cell_block hp1]; rfl
  have hc1 : w1.cell? ⟨p, 1, none⟩ = some vl := by rw [cell_block hp1]; rfl
  simp (maxSteps := 600000) (disch := omega) only [PL67_0, ↓sy1, sy2, sy3, readOK, sy5, sy6, Nat.reduceEqDiff, ↓reduceIte, sy7, sy8, sy9, sya, oneOf, syb, syc, Nat.reduceAdd, Nat.reduceMul, syd, sye, syf, syg, syh, reduceCtorEq, hc0, hc1, fill_gen, fillF_2 (a := .slice none 0 0) (b := .slice none 0 0) hcf hcl, agg2_cells hcf hcl]
  have hg2 : Grow w1 (w1.alloc (.cells #[vf, vl] 106)) := (Keep.refl _ _).alloc _
  have hb2 := heap_alloc_new w1 (.cells #[vf, vl] 106)
  generalize w1.alloc (.cells #[vf, vl] 106) = w2 at hg2 hb2 ⊢
  have hgw := hgd.trans hg2
  have hx : Ext0 G w (G.upto w.heap.size (fun _ => κ') (fun _ => 0)) w2 := .upto hgw _ _
  have hsz := hgd.size
  refine R_out ⟨_, G.upto w.heap.size (fun _ => κ') (fun _ => 0), rfl, hsz, ⟨hok, hl, vf, vl, xs, hb2, by simp [Gh.upto, Nat.not_lt.2 hsz], by simp [Gh.upto, Nat.not_lt.2 hsz], h1.ext hx, h2.ext hx, h3.ext hx⟩, hx⟩
/-- The reference's log at block q, over a disk of owner κ. -/
def RLogAt (G : Gh) (κ : Nat) (w : World) (q : Nat) (size came : Nat) (D : Dsk) : Prop :=
  κ ≠ 0 ∧ 1 ≤ size ∧ size + 2 ≤ D.first.length ∧ G.own q = 0 ∧ ∃ p, w.heap[q]? = some (.cells #[.pointer (some ⟨p, 0, none⟩), .int .i64 size, .int .i64 came] 98 (0, 0)) ∧ RefAt G κ w p D
theorem RLogAt.ext {K : Nat → Prop} {G G' : Gh} {κ : Nat} {w w' : World} {q size came : Nat} {D : Dsk} (h : RLogAt G κ w q size came D) (hx : Ext K G w G' w') (hk : ¬ K κ) (h0 : ¬ K 0) : RLogAt G' κ w' q size came D := by
  obtain ⟨h1, h2, h3, h4, p, h5, h6⟩ := h
  exact ⟨h1, h2, h3, by rw [hx.own q (hx.lt h5)]; exact h4, p, hx.heap h5 (by rw [h4]; exact h0), h6.ext hx hk⟩
theorem RLogAt.grow {G : Gh} {κ : Nat} {w w' : World} {q size came : Nat} {D : Dsk} (h : RLogAt G κ w q size came D) (hg : Grow w w') : RLogAt G κ w' q size came D := h.ext (K := fun _ => False) (.grow hg) id id
theorem RLogAt.put {G G' : Gh} {κ : Nat} {w w' : World} {q size came p : Nat} {D E : Dsk} (h : RLogAt G κ w q size came D) (hp : w.cell? ⟨q, 0, none⟩ = some (.pointer (some ⟨p, 0, none⟩))) (hx : Ext (fun c => c = κ) G w G' w') (hE : E.first = D.first) (hd : RefAt G' κ w' p E) : RLogAt G' κ w' q size came E := by
  obtain ⟨h1, h2, h3, h4, p', h5, h6⟩ := h
  have : w.cell? ⟨q, 0, none⟩ = some (.pointer (some ⟨p', 0, none⟩)) := by rw [cell_block h5]; rfl
  rw [this] at hp; cases hp
  exact ⟨h1, h2, by rw [hE]; exact h3, by rw [hx.own q (hx.lt h5)]; exact h4, p, hx.heap h5 (by rw [h4]; exact fun h => h1 h.symm), hd⟩
theorem RLogAt.cells {G : Gh} {κ : Nat} {w : World} {q size came : Nat} {D : Dsk} (h : RLogAt G κ w q size came D) :
    ∃ p, RefAt G κ w p D ∧ ∀ {w'}, Grow w w' → w'.cell? ⟨q, 0, none⟩ = some (.pointer (some ⟨p, 0, none⟩)) ∧ w'.cell? ⟨q, 1, none⟩ = some (.int .i64 size) ∧ w'.cell? ⟨q, 2, none⟩ = some (.int .i64 came) := by
  obtain ⟨hκ, hs1, hs2, ho0, p, hq, hd⟩ := h
  exact ⟨p, hd, fun hg => ⟨by rw [cell_block (hg.gheap hq)]; rfl, by rw [cell_block (hg.gheap hq)]; rfl, by rw [cell_block (hg.gheap hq)]; rfl⟩⟩
theorem rhead0_spec {w : World} {q p size came : Nat} {D : Dsk} {G : Gh} {κ : Nat} (hq : w.heap[q]? = some (.cells #[.pointer (some ⟨p, 0, none⟩), .int .i64 size, .int .i64 came] 98 (0, 0))) (h : RefAt G κ w p D) (hs : 0 < D.first.length) (hh : D.image[0]? = some zsec) :
    Calls Try.prog 72 #[.pointer (some ⟨q, 0, none⟩)] w (Ret fun v w' => v = .tuple #[.slice none 0 0, .bool true] ∧ Grow w w') := by
  have hc0 : w.cell? ⟨q, 0, none⟩ = some (.pointer (some ⟨p, 0, none⟩)) := by rw [cell_block hq]; rfl
  apply enter72
  apply R_in
  simp (maxSteps := 600000) (disch := omega) only [F72, ↓sy1, sy2, sy3, readOK, sy5, sy6, Nat.reduceEqDiff, ↓reduceIte, sy7, sy8, sy9, sya, oneOf, syb, syc, Nat.reduceAdd, Nat.reduceMul, syd, sye, syf, syg, syh, reduceCtorEq, hc0]
  refine call0 (rread_spec h (n := 0) hs) ?_
  rintro _ w1 ⟨u, rfl, hu, hg⟩
  have hz : D.image[0]'(by rw [D.image_length]; exact hs) = zsec := by
    rw [List.getElem?_eq_getElem (by rw [D.image_length]; exact hs)] at hh; exact Option.some.inj hh
  rw [hz] at hu
  have hlz : zsec.length = 512 := List.length_replicate
  have hul : ∀ w', lenF w' 0 u = some (.int .i64 512) := fun w' => by rw [hu.lenB, hlz]; rfl
  simp (maxSteps := 600000) (disch := omega) only [↓sy1, sy2, sy3, readOK, sy5, sy6, Nat.reduceEqDiff, ↓reduceIte, sy7, sy8, sy9, sya, oneOf, syb, syc, Nat.reduceAdd, Nat.reduceMul, syd, sye, syf, syg, syh, reduceCtorEq]
  refine loop_rule (fun e w' => ∃ i : Nat, i ≤ 512 ∧ e 7 = .int .i64 i ∧ e 6 = .bool true ∧ e 4 = u ∧ w' = w1) (fun e _ => 512 - (intOf (e 7)).toNat)
    ⟨0, by omega, by simp [upd, updO, ev], by simp [upd, updO, ev], by simp [upd, updO, ev], rfl⟩ ?_
  rintro e w2 ⟨i, hi, e7, e6, e4, rfl⟩
  by_cases hlt : i < 512
  · obtain ⟨a, ha, hac, _⟩ := hu.getB (i := i) (by omega)
    have hzi : zsec[i]'(by omega) = 0 := List.getElem_replicate ..
    rw [hzi] at hac
    simp (maxSteps := 600000) (disch := omega) only [F72_L0, ↓sy1, sy2, sy3, readOK, sy5, sy6, Nat.reduceEqDiff, ↓reduceIte, sy7, sy8, sy9, sya, oneOf, syb, syc, Nat.reduceAdd, Nat.reduceMul, syd, sye, syf, syg, syh, reduceCtorEq, e7, e6, e4, hul, show ((i : Int) < 512) from by omega, decide_true, ha, hac, show (((0 : UInt8).toNat : Int) = 0) = True from by simp]
    refine R_out ⟨⟨i + 1, by omega, rfl⟩, ?_⟩
    simp only [intOf]; omega
  · simp (maxSteps := 600000) (disch := omega) only [F72_L0, ↓sy1, sy2, sy3, readOK, sy5, sy6, Nat.reduceEqDiff, ↓reduceIte, sy7, sy8, sy9, sya, oneOf, syb, syc, Nat.reduceAdd, Nat.reduceMul, syd, sye, syf, syg, syh, reduceCtorEq, e7, e6, e4, hul, show ¬ ((i : Int) < 512) from by omega, decide_false]
    exact R_out hg
theorem fillF_rlog {a b c x y : Value} (hx : isCell x = true) (hy : isCell y = true) : fillF #[a, b, c] [(0, 1, x), (1, 1, y)] = some #[x, y, c] := by
  rw [fillF_cell hx (by simp), fillF_cell hy (by simp), fillF_nil]; simp
theorem ropen_nil {w : World} {n : Int} : Calls Try.prog 38 #[.pointer none, .int .i64 n] w (Ret fun v w' => v = .tuple #[.pointer none, .int .i64 1] ∧ w' = w) := by
  apply enter38
  apply R_in
  simp (maxSteps := 600000) (disch := omega) only [F38, ↓sy1, sy2, sy3, readOK, sy5, sy6, Nat.reduceEqDiff, ↓reduceIte, sy7, sy8, sy9, sya, oneOf, syb, syc, Nat.reduceAdd, Nat.reduceMul, syd, sye, syf, syg, syh, reduceCtorEq]
  exact R_out trivial
theorem ropen_bad {G : Gh} {κ : Nat} {w : World} {p : Nat} {n : Int} {D : Dsk} (h : RefAt G κ w p D) (hn : n < 1 ∨ (D.first.length : Int) - 2 < n) :
    Calls Try.prog 38 #[.pointer (some ⟨p, 0, none⟩), .int .i64 n] w (Ret fun v w' => v = .tuple #[.pointer none, .int .i64 2] ∧ w' = w) := by
  have hmost := h.ok.most
  apply enter38
  apply R_in
  by_cases h1 : n < 1
  · simp (maxSteps := 600000) (disch := omega) only [F38, ↓sy1, sy2, sy3, readOK, sy5, sy6, Nat.reduceEqDiff, ↓reduceIte, sy7, sy8, sy9, sya, oneOf, syb, syc, Nat.reduceAdd, Nat.reduceMul, syd, sye, syf, syg, syh, reduceCtorEq, h1, decide_true]
    exact R_out trivial
  · simp (maxSteps := 600000) (disch := omega) only [F38, ↓sy1, sy2, sy3, readOK, sy5, sy6, Nat.reduceEqDiff, ↓reduceIte, sy7, sy8, sy9, sya, oneOf, syb, syc, Nat.reduceAdd, Nat.reduceMul, syd, sye, syf, syg, syh, reduceCtorEq, h1, decide_false]
    refine call0 (rsectors_spec h) ?_
    rintro _ w1 ⟨rfl, rfl⟩
    simp (maxSteps := 600000) (disch := omega) only [↓sy1, sy2, sy3, readOK, sy5, sy6, Nat.reduceEqDiff, ↓reduceIte, sy7, sy8, sy9, sya, oneOf, syb, syc, Nat.reduceAdd, Nat.reduceMul, syd, sye, syf, syg, syh, reduceCtorEq, show ((D.first.length : Int) - 2 < n) from by omega, decide_true]
    exact R_out trivial
theorem ropen0_spec {G : Gh} {κ : Nat} {w : World} {p size : Nat} {D : Dsk} (κ' : Nat) (hκ : κ' ≠ 0) (h : RefAt G κ w p D) (h1 : 1 ≤ size) (h2 : size + 2 ≤ D.first.length) (hh : D.image[0]? = some zsec) :
    Calls Try.prog 38 #[.pointer (some ⟨p, 0, none⟩), .int .i64 size] w (Ret fun v w' => ∃ q G', v = .tuple #[.pointer (some ⟨q, 0, none⟩), .int .i64 0] ∧ w.heap.size ≤ q ∧ RLogAt G' κ' w' q size 0 D ∧ Ext0 G w G' w') := by
  have hmost := h.ok.most
  apply enter38
  apply R_in
  simp (maxSteps := 600000) (disch := omega) only [F38, ↓sy1, sy2, sy3, readOK, sy5, sy6, Nat.reduceEqDiff, ↓reduceIte, sy7, sy8, sy9, sya, oneOf, syb, syc, Nat.reduceAdd, Nat.reduceMul, syd, sye, syf, syg, syh, reduceCtorEq, show ¬ ((size : Int) < 1) from by omega, decide_false]
  refine call0 (rsectors_spec h) ?_
  rintro _ w1 ⟨rfl, rfl⟩
  simp (maxSteps := 600000) (disch := omega) only [↓sy1, sy2, sy3, readOK, sy5, sy6, Nat.reduceEqDiff, ↓reduceIte, sy7, sy8, sy9, sya, oneOf, syb, syc, Nat.reduceAdd, Nat.reduceMul, syd, sye, syf, syg, syh, reduceCtorEq, show ¬ ((D.first.length : Int) - 2 < (size : Int)) from by omega, decide_false]
  refine call0 (rfork_spec κ' h) ?_
  rintro _ w2 ⟨p2, G2, rfl, hp2, hd2, hx2⟩
  have hsz2 := hx2.size
  simp (maxSteps := 600000) (disch := omega) only [↓sy1, sy2, sy3, readOK, sy5, sy6, Nat.reduceEqDiff, ↓reduceIte, sy7, sy8, sy9, sya, oneOf, syb, syc, Nat.reduceAdd, Nat.reduceMul, syd, sye, syf, syg, syh, reduceCtorEq, fill_gen, List.map_cons, List.map_nil, fillF_rlog (a := .pointer none) (b := .int .i64 0) (c := .int .i64 0) (x := .pointer (some ⟨p2, 0, none⟩)) (y := .int .i64 size) rfl rfl, agg3_cells (x := .pointer (some ⟨p2, 0, none⟩)) (y := .int .i64 size) (z := .int .i64 0) rfl rfl rfl]
  have hg3 : Grow w2 (w2.alloc (.cells #[.pointer (some ⟨p2, 0, none⟩), .int .i64 size, .int .i64 0] 98)) := (Keep.refl _ _).alloc _
  have hb3 := heap_alloc_new w2 (.cells #[.pointer (some ⟨p2, 0, none⟩), .int .i64 size, .int .i64 0] 98)
  generalize w2.alloc (.cells #[.pointer (some ⟨p2, 0, none⟩), .int .i64 size, .int .i64 0] 98) = w3 at hg3 hb3 ⊢
  refine call0 (rhead0_spec (came := 0) hb3 (hd2.grow hg3) (by omega) hh) ?_
  rintro _ w4 ⟨rfl, hg4⟩
  have hnl : ∀ w', lenF w' 0 (.slice none 0 0) = some (.int .i64 0) := fun w' => rfl
  simp (maxSteps := 600000) (disch := omega) only [↓sy1, sy2, sy3, readOK, sy5, sy6, Nat.reduceEqDiff, ↓reduceIte, sy7, sy8, sy9, sya, oneOf, syb, syc, Nat.reduceAdd, Nat.reduceMul, syd, sye, syf, syg, syh, reduceCtorEq, hnl, show ¬ ((0 : Int) < 0) from by omega, decide_false]
  have hx4 : Ext0 G2 w2 (G2.new w2.heap.size) w4 := .newB (hg3.trans hg4)
  exact R_out ⟨_, G2.new w2.heap.size, rfl, by omega, ⟨hκ, h1, h2, Gh.new_own (Nat.le_refl _), p2, hg4.gheap hb3, hd2.ext hx4 id⟩, hx2.trans hx4⟩
end Go.Proofs.Ytneehlkofcdhoaa
