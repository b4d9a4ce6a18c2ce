/- The reference's disk: New. -/
import Derived.Test.YtneehlkofcdhoaaRf
namespace Go.Proofs.Ytneehlkofcdhoaa
open Go
set_option linter.unusedSimpArgs false
open Go.RowKit (intOf)
theorem agg2_cells {x y : Value} (hx : isCell x = true) (hy : isCell y = true) : (Value.agg #[x, y]).cells = #[x, y] := by
  simp [Value.cells, isCell_cells hx, isCell_cells hy]
theorem rnew_bad {n : Int} {w : World} (h : n < 1 ∨ 4096 < n) : Calls Try.prog 37 #[.int .i64 n] w (Ret fun v w' => v = .tuple #[.pointer none, .int .i64 2] ∧ w' = w) := by
  apply enter37
  apply R_in
  by_cases h1 : n < 1
  · simp (maxSteps := 600000) (disch := omega) only [F37, ↓sy1, sy2, sy3, readOK, sy5, sy6, Nat.reduceEqDiff, ↓reduceIte, sy7, sy8, sy9, sya, oneOf, syb, syc, Nat.reduceAdd, Nat.reduceMul, syd, sye, syf, syg, syh, reduceCtorEq, h1, decide_true]
    exact R_out trivial
  · have h2 : 4096 < n := by omega
    simp (maxSteps := 600000) (disch := omega) only [F37, ↓sy1, sy2, sy3, readOK, sy5, sy6, Nat.reduceEqDiff, ↓reduceIte, sy7, sy8, sy9, sya, oneOf, syb, syc, Nat.reduceAdd, Nat.reduceMul, syd, sye, syf, syg, syh, reduceCtorEq, h1, decide_false, h2, decide_true]
    exact R_out trivial
theorem rnew_spec (G : Gh) (κ : Nat) {n : Nat} {w : World} (h1 : 1 ≤ n) (h2 : n ≤ 4096) :
    Calls Try.prog 37 #[.int .i64 n] w (Ret fun v w' => ∃ p G', v = .tuple #[.pointer (some ⟨p, 0, none⟩), .int .i64 0] ∧ w.heap.size ≤ p ∧ RefAt G' κ w' p (Dsk.zero n) ∧ Ext0 G w G' w') := by
  apply enter37
  apply R_in
  have hn1 : ¬ ((n : Int) < 1) := by omega
  have hn2 : ¬ ((4096 : Int) < n) := by omega
  have hg0 : Grow w (w.alloc (.cells #[.slice none 0 0, .slice none 0 0] 106)) := (Keep.refl _ _).alloc _
  have hb0 := heap_alloc_new w (.cells #[.slice none 0 0, .slice none 0 0] 106)
  have hs0 : (w.alloc (.cells #[.slice none 0 0, .slice none 0 0] 106)).heap.size = w.heap.size + 1 := by simp
  generalize hw0 : w.alloc (.cells #[.slice none 0 0, .slice none 0 0] 106) = w0 at hg0 hb0 hs0
  simp (maxSteps := 600000) (disch := omega) only [F37, ↓sy1, sy2, sy3, readOK, sy5, sy6, Nat.reduceEqDiff, ↓reduceIte, sy7, sy8, sy9, sya, oneOf, syb, syc, Nat.reduceAdd, Nat.reduceMul, syd, sye, syf, syg, syh, reduceCtorEq, hn1, hn2, decide_false, agg2_cells (x := .slice none 0 0) (y := .slice none 0 0) rfl rfl, hw0]
  generalize hp : w.heap.size = p at hb0 hs0 ⊢
  refine loop_rule (fun e w' => ∃ (i : Nat) (vs : List Value) (out : Value), i ≤ n ∧ e 5 = .int .i64 i ∧ e 0 = .int .i64 n ∧ e 4 = .pointer (some ⟨p, 0, none⟩) ∧ Grow w w' ∧ p + 1 ≤ w'.heap.size ∧ vs.length = i ∧
      w'.heap[p]? = some (.cells #[out, .slice none 0 0] 106 (0, 0)) ∧ w'.ownsRow (p + 1) 28 1 out i vs ∧ RowsO (p + 1) 5 w' vs (List.replicate i zsec)) (fun e _ => n - (intOf (e 5)).toNat)
    ⟨0, [], .slice none 0 0, by omega, by simp [upd], by simp [upd], by simp [upd], hg0, by omega, rfl, hb0, World.ownsRow_nil w0 _ _ _, trivial⟩ ?_
  rintro e w1 ⟨i, vs, out, hi, h5, h0, h4, hg, hsz, hvl, hb, ho, hr⟩
  by_cases hlt : i < n
  · simp (maxSteps := 600000) (disch := omega) only [F37_L0, ↓sy1, sy2, sy3, readOK, sy5, sy6, Nat.reduceEqDiff, ↓reduceIte, sy7, sy8, sy9, sya, oneOf, syb, syc, Nat.reduceAdd, Nat.reduceMul, syd, sye, syf, syg, syh, reduceCtorEq, h5, h0, h4, Int.ofNat_lt, hlt, decide_true]
    refine draw37_0 (fun _ => False) ?_
    have hgd : Grow w1 w1.drew := (Keep.refl _ _).drew
    have hb2 := hgd.gheap hb
    have ho2 := own_grow ho hgd
    have hr2 := hr.grow hgd
    have hg2 := hg.trans hgd
    have hsz2 : p + 1 ≤ w1.drew.heap.size := hsz
    generalize w1.drew = w2 at hgd hb2 ho2 hr2 hg2 hsz2 ⊢
    have hc0 : w2.cell? ⟨p, 0, none⟩ = some out := by rw [cell_block hb2]; rfl
    simp (maxSteps := 600000) (disch := omega) only [PL37_0, ↓sy1, sy2, sy3, readOK, sy5, sy6, Nat.reduceEqDiff, ↓reduceIte, sy7, sy8, sy9, sya, oneOf, syb, syc, Nat.reduceAdd, Nat.reduceMul, syd, sye, syf, syg, syh, reduceCtorEq, h5, h0, h4, hc0]
    refine mk_rule elemB (kx := .i64) (ky := .i64) (a := 512) (c := 512) (by simp only [upd_at, Nat.reduceEqDiff, reduceIte, ev_tmp, ev_const, List.map_cons, List.map_nil]) (by simp only [upd_at, Nat.reduceEqDiff, reduceIte, ev_tmp, ev_const, List.map_cons, List.map_nil]) (by omega) (by omega) (by omega) (by omega) rfl ?_
    have hg3 : Grow w2 (w2.alloc (.cells (Array.replicate (512 : Int).toNat (.int .u8 0)) 5)) := (Keep.refl _ _).alloc _
    have hv := own_made w2 w2.heap.size (Nat.le_refl _) 5 (512 : Int).toNat (by decide) (.int .u8 0)
    generalize w2.alloc (.cells (Array.replicate (512 : Int).toNat (.int .u8 0)) 5) = w3 at hg3 hv ⊢
    rw [show (512 : Int).toNat = 512 from rfl] at hv ⊢
    generalize (Value.slice (some ⟨w2.heap.size, 0, none⟩) 512 512) = v at hv ⊢
    rw [← bs_zsec] at hv
    have hvc := (Has.own hv).isCell
    simp (maxSteps := 600000) (disch := omega) only [↓sy1, sy2, sy3, readOK, sy5, sy6, Nat.reduceEqDiff, ↓reduceIte, sy7, sy8, sy9, sya, oneOf, syb, syc, Nat.reduceAdd, Nat.reduceMul, syd, sye, syf, syg, syh, reduceCtorEq, oneF_cell hvc]
    have hg4 : Grow w3 (w3.alloc (.cells #[v] 28)) := (Keep.refl _ _).alloc _
    refine ⟨hg3, hg3.trans hg4, ?_⟩
    have ho3 := own_grow ho2 hg3
    refine app_own elemR (by simp only [upd_at, Nat.reduceEqDiff, reduceIte, ev_tmp, ev_const, List.map_cons, List.map_nil]) (by simp only [upd_at, Nat.reduceEqDiff, reduceIte, ev_tmp, ev_const, List.map_cons, List.map_nil]) (own_grow ho3 hg4) Has.new1 (m := 1) rfl (by simpa using hvc) (by omega) (by omega) (by have := hg3.size; simp; omega) ?_
    intro out' w5 ho5 hg5
    have hk5 := (Keep.refl (fun b => some b = out.ownBlock) w3).trans (((Keep.refl _ _).alloc _).trans (Keep.grown hg5))
    have hb5 := hk5.heap (hg3.gheap hb2) (fun h => by have := (World.ownsRow.lt ho3 p h.symm).1; omega)
    obtain ⟨w6, hst, hb6, hk6⟩ := cell_store hb5 (i := 0) (by simp) (u := out') (Has.own ho5).isCell
    simp (maxSteps := 600000) (disch := omega) only [↓sy1, sy2, sy3, readOK, sy5, sy6, Nat.reduceEqDiff, ↓reduceIte, sy7, sy8, sy9, sya, oneOf, syb, syc, Nat.reduceAdd, Nat.reduceMul, syd, sye, syf, syg, syh, reduceCtorEq, h5, h0, h4, hst]
    have hgw : Grow w w6 := ((hg2.trans hg3).then hk5 (fun b hb h => by
      obtain ⟨hbb, _⟩ := World.ownsRow.lt ho3 b h.symm; omega)).then hk6 (fun b hb h => by omega)
    have ho6 := own_keep ho5 hk6 (fun b hb hbp => by have := (World.ownsRow.lt ho5 b hb).1; omega)
    refine R_out ⟨⟨i + 1, vs ++ [v], out', by omega, rfl, hgw, ?_, by simp [hvl], by simpa using hb6, ho6, ?_⟩, ?_⟩
    · exact Nat.le_trans hsz2 (Nat.le_trans hg3.size (Nat.le_trans hk5.size hk6.size))
    · rw [List.replicate_succ']
      have key : ∀ {u n' xs'}, w3.ownsRow (p + 1) 5 1 u n' xs' → ∀ b, u.ownBlock = some b → b ≠ p := fun hu b hb => by have := (World.ownsRow.lt hu b hb).1; omega
      refine RowsO.snoc ?_ ?_
      · refine ((hr2.grow hg3).keep hk5 (fun b hb u' n' xs' hu' => own_ne ho3 hu' (by decide) hb.symm)).keep hk6 (fun b hb u' n' xs' hu' hub => ?_)
        have := (World.ownsRow.lt hu' b hub).1; omega
      · rw [zsec_length]
        have hv3 := own_base hv hsz2
        have hv5 := own_keep hv3 hk5 (fun b hb hS => own_ne ho3 hv3 (by decide) hS.symm hb)
        exact own_keep hv5 hk6 (fun b hb hS => by have := (World.ownsRow.lt hv5 b hb).1; omega)
    · simp only [intOf]; omega
  · simp (maxSteps := 600000) (disch := omega) only [F37_L0, ↓sy1, sy2, sy3, readOK, sy5, sy6, Nat.reduceEqDiff, ↓reduceIte, sy7, sy8, sy9, sya, oneOf, syb, syc, Nat.reduceAdd, Nat.reduceMul, syd, sye, syf, syg, syh, reduceCtorEq, h5, h0, h4, Int.ofNat_lt, hlt, decide_false]
    have hie : i = n := by omega
    subst hie
    have hf : FreshR (p + 1) 28 5 w1 out (List.replicate i zsec) := ⟨vs, by simpa using ho, hr⟩
    let G' : Gh := ⟨fun b => if b < p then G.own b else κ, fun b => if b < p then G.fix b else if b = p then 0 else maxLen⟩
    have hx : Ext0 G w G' w1 := .ofGrow hg (fun b hb => by simp [G']; omega) (fun b hb => by simp [G']; omega)
    have hra : RowsAt G' w1 out (List.replicate i zsec) := hf.rowsAt (fun b hb => by simp only [G']; rw [if_neg (by omega), if_neg (by omega)]; exact Nat.le_refl _)
    refine R_out ⟨p, G', rfl, by omega, ⟨Dsk.zero_ok h1 h2, by simp [Dsk.zero], out, .slice none 0 0, [], hb, by simp [G'], by simp [G'], hra, ⟨Has.nil 3 w1, fun _ _ _ _ h => by cases h⟩, trivial⟩, hx⟩
end Go.Proofs.Ytneehlkofcdhoaa
