/- DiskLast: the walk. -/
import Derived.Test.YtaeejceljgjdkaaPl
namespace Go.Proofs.Ytaeejceljgjdkaa
open Go
set_option linter.unusedSimpArgs false
open Go.RowKit (intOf)
theorem FreshR.keep {S : Nat → Prop} {B : Nat} {tr t : TypeId} {w w' : World} {v : Value} {ls : List (List UInt8)} (h : FreshR B tr t w v ls) (hk : Keep S w w') (hs : ∀ b, B ≤ b → ¬ S b) : FreshR B tr t w' v ls := by
  obtain ⟨vs, h1, h2⟩ := h
  exact ⟨vs, own_keep h1 hk (fun b hb => hs b (World.ownsRow.lt h1 b hb).1), h2.keep hk (fun b hS u n xs hu hub => absurd hS (hs b (World.ownsRow.lt hu b hub).1))⟩
theorem Dsk.image_wr (D : Dsk) (n : Nat) (b : List UInt8) : (D.add (.wr n b)).image = D.image.set n b := by
  refine List.ext_getElem (by simp [Dsk.image_length, Dsk.add]) fun i h1 h2 => ?_
  rw [List.getElem_set]
  have hs : (D.add (.wr n b)).safe = D.safe := D.safe_wr n b
  rw [Dsk.image_length] at h1
  have hi : i < D.safe.length := by rw [D.safe_length]; exact h1
  rw [Dsk.image_get _ i _ (by rw [hs]; exact hi)]
  have hw := D.wait_wr n b
  simp only [hs, hw]
  by_cases hin : n = i
  · subst hin; simp [lastOr]
  · rw [if_neg (fun h => hin h.symm), if_neg hin]
    exact (D.image_get i _ hi).symm
theorem Deed.val_cells (x : Deed) : x.val.cells = #[.bool x.fl, .int .i64 x.n, .int .i64 x.len, .int .u8 (x.b.toNat : Int)] := rfl
theorem diskLast_walk {w : World} {lv : Value} {l : List Deed} {x : Deed} (hv : HasD w lv l) :
    Calls Try.prog 5 #[lv, x.val] w (Ret fun v w' => v = .bool true ∧ Grow w w') := by
  apply enter5
  apply R_in
  have hgb : Grow w (w.alloc (.cells x.val.cells 43)) := (Keep.refl _ _).alloc _
  have hbb := heap_alloc_new w (.cells x.val.cells 43)
  generalize hwb : w.alloc (.cells x.val.cells 43) = wb at hgb hbb
  rw [x.val_cells] at hbb
  simp (maxSteps := 1000000) (disch := omega) only [F5, ↓sy1, sy2, sy3, readOK, implies_true, forall_const, Nat.reduceEqDiff, ↓reduceIte, Option.map_some, Option.map_none, List.map_cons, List.map_nil, oneOf, if_true, if_false, Nat.reduceAdd, Nat.reduceMul, Option.isNone_some, Option.isNone_none, List.getElem?_toArray, List.getElem?_cons_zero, List.getElem?_cons_succ, reduceCtorEq, hwb]
  generalize w.heap.size = xb at hbb ⊢
  refine call0 (play_spec (n := 5) (Has.grow hv hgb) (by omega) (by omega)) ?_
  rintro _ w1 ⟨p, r, G1, rfl, hd1, _, hx1⟩
  have hg1 : Grow w w1 := hgb.trans (hx1.toGrow (by simp))
  have hb1 := hx1.heap hbb (by simp [G00])
  have hfirst := played_first (l.take 40) (Dsk.zero 5)
  rw [show (Dsk.zero 5).first = List.replicate 5 zsec from rfl] at hfirst
  have hops := played_ops (l.take 40) (Dsk.zero 5)
  rw [show (Dsk.zero 5).ops.length = 0 from rfl, List.length_take] at hops
  generalize played (Dsk.zero 5) (l.take 40) = D at hd1 hfirst hops
  have hf5 : D.first.length = 5 := by rw [hfirst]; simp
  simp (maxSteps := 1000000) (disch := omega) only [↓sy1, sy2, sy3, readOK, implies_true, forall_const, Nat.reduceEqDiff, ↓reduceIte, Option.map_some, Option.map_none, List.map_cons, List.map_nil, oneOf, if_true, if_false, Nat.reduceAdd, Nat.reduceMul, Option.isNone_some, Option.isNone_none, List.getElem?_toArray, List.getElem?_cons_zero, List.getElem?_cons_succ, reduceCtorEq]
  refine call0 (live_spec w1) ?_
  rintro _ w2 ⟨rfl, hg2⟩
  simp (maxSteps := 1000000) (disch := omega) only [↓sy1, sy2, sy3, readOK, implies_true, forall_const, Nat.reduceEqDiff, ↓reduceIte, Option.map_some, Option.map_none, List.map_cons, List.map_nil, oneOf, if_true, if_false, Nat.reduceAdd, Nat.reduceMul, Option.isNone_some, Option.isNone_none, List.getElem?_toArray, List.getElem?_cons_zero, List.getElem?_cons_succ, reduceCtorEq]
  refine call0 (image_spec (hd1.grow hg2)) ?_
  rintro wasv w3 ⟨hwas, hg3⟩
  simp (maxSteps := 1000000) (disch := omega) only [↓sy1, sy2, sy3, readOK, implies_true, forall_const, Nat.reduceEqDiff, ↓reduceIte, Option.map_some, Option.map_none, List.map_cons, List.map_nil, oneOf, if_true, if_false, Nat.reduceAdd, Nat.reduceMul, Option.isNone_some, Option.isNone_none, List.getElem?_toArray, List.getElem?_cons_zero, List.getElem?_cons_succ, reduceCtorEq]
  refine call0 (safe_spec ((hd1.grow hg2).grow hg3)) ?_
  rintro safev w4 ⟨hsafe, hg4⟩
  have hg14 := (hg2.trans hg3).trans hg4
  have hb4 := hg14.gheap hb1
  simp (maxSteps := 1000000) (disch := omega) only [↓sy1, sy2, sy3, readOK, implies_true, forall_const, Nat.reduceEqDiff, ↓reduceIte, Option.map_some, Option.map_none, List.map_cons, List.map_nil, oneOf, if_true, if_false, Nat.reduceAdd, Nat.reduceMul, Option.isNone_some, Option.isNone_none, List.getElem?_toArray, List.getElem?_cons_zero, List.getElem?_cons_succ, reduceCtorEq, loadN4b hb4]
  rw [show Value.agg [Value.bool x.fl, Value.int IntKind.i64 x.n, Value.int IntKind.i64 x.len, Value.int IntKind.u8 (x.b.toNat : Int)].toArray = x.val from rfl]
  refine call0 (bytes_spec x w4) ?_
  rintro bv w5 ⟨hbv, hg5⟩
  have hb5 := hg5.gheap hb4
  have hcn5 : w5.cell? ⟨xb, 1, none⟩ = some (.int .i64 x.n) := by rw [cell_block hb5]; rfl
  simp (maxSteps := 1000000) (disch := omega) only [↓sy1, sy2, sy3, readOK, implies_true, forall_const, Nat.reduceEqDiff, ↓reduceIte, Option.map_some, Option.map_none, List.map_cons, List.map_nil, oneOf, if_true, if_false, Nat.reduceAdd, Nat.reduceMul, Option.isNone_some, Option.isNone_none, List.getElem?_toArray, List.getElem?_cons_zero, List.getElem?_cons_succ, reduceCtorEq, hcn5]
  have hg15 := hg14.trans hg5
  have hxn : Ext0 G1 w1 (G1.new w1.heap.size) w5 := .newB hg15
  have hnew : ∀ b, w1.heap.size ≤ b → ¬ ((G1.new w1.heap.size).own b = 1) := fun b hb => by rw [Gh.new_own hb]; omega
  refine call0 (write_any (n := x.n) (hd1.ext hxn id) (Has.own hbv) (by omega)) ?_
  rintro _ w6 ⟨rfl, G6, hd6, hx6⟩
  simp (maxSteps := 1000000) (disch := omega) only [↓sy1, sy2, sy3, readOK, implies_true, forall_const, Nat.reduceEqDiff, ↓reduceIte, Option.map_some, Option.map_none, List.map_cons, List.map_nil, oneOf, if_true, if_false, Nat.reduceAdd, Nat.reduceMul, Option.isNone_some, Option.isNone_none, List.getElem?_toArray, List.getElem?_cons_zero, List.getElem?_cons_succ, reduceCtorEq]
  have hwas6 := (hwas.grow (hg4.trans hg5)).keep hx6.keep (fun b hb => hnew b (Nat.le_trans hg2.size hb))
  have hsafe6 := (hsafe.grow hg5).keep hx6.keep (fun b hb => hnew b (Nat.le_trans (hg2.trans hg3).size hb))
  have hbv6 := own_keep hbv hx6.keep (fun b hb => hnew b (Nat.le_trans hg14.size (World.ownsRow.lt hbv b hb).1))
  have hxb : (G1.new w1.heap.size).own xb = 0 := by
    have h1 := (Array.getElem?_eq_some_iff.1 hbb).1
    have h2 := hx1.own xb h1
    have h3 := (Array.getElem?_eq_some_iff.1 hb1).1
    rw [hxn.own xb h3, h2]; rfl
  have hb6 := hx6.heap hb5 (by rw [hxb]; omega)
  have hgw6 : Grow w w6 := (hgb.trans (((hx1.trans (hxn.mono (fun _ h => h.elim))).trans (hx6.mono (fun c h => by omega))).toGrow (by simp)))
  refine call0 (image_spec hd6) ?_
  rintro nowv w7 ⟨hnow, hg7⟩
  simp (maxSteps := 1000000) (disch := omega) only [↓sy1, sy2, sy3, readOK, implies_true, forall_const, Nat.reduceEqDiff, ↓reduceIte, Option.map_some, Option.map_none, List.map_cons, List.map_nil, oneOf, if_true, if_false, Nat.reduceAdd, Nat.reduceMul, Option.isNone_some, Option.isNone_none, List.getElem?_toArray, List.getElem?_cons_zero, List.getElem?_cons_succ, reduceCtorEq]
  have hlaw : ∀ (i : Nat) (h : i < 5), (wdone D x.n x.bytes).image[i]? = some (if wcode D x.n x.bytes = 0 ∧ (i : Int) = x.n then x.bytes else D.image[i]'(by rw [D.image_length, hf5]; exact h)) := by
    intro i hi
    have hil : i < D.image.length := by rw [D.image_length, hf5]; exact hi
    by_cases hc : (0 ≤ x.n ∧ x.n < D.first.length) ∧ x.bytes.length = 512
    · have hw0 : wcode D x.n x.bytes = 0 := by unfold wcode; rw [if_neg (by omega), if_pos hc.2]
      rw [wdone, if_pos hc, D.image_wr, List.getElem?_set, hw0]
      by_cases hin : x.n.toNat = i
      · rw [if_pos hin, if_pos (by omega), if_pos ⟨rfl, by omega⟩]
      · rw [if_neg hin, if_neg (by omega), List.getElem?_eq_getElem hil]
    · have hw0 : wcode D x.n x.bytes ≠ 0 := by
        unfold wcode; split
        · omega
        · split <;> omega
      rw [wdone, if_neg hc, if_neg (fun h => hw0 h.1), List.getElem?_eq_getElem hil]
  have hsafeD : (wdone D x.n x.bytes).safe = D.safe := by
    unfold wdone; split
    · exact D.safe_wr _ _
    · rfl
  have hokD := hd1.ok
  have hcase : (wcode D x.n x.bytes = 0 ∧ 0 ≤ x.n ∧ x.n < 5 ∧ (x.size : Int) = 512) ∨ (¬ (wcode D x.n x.bytes = 0) ∧ ¬ (0 ≤ x.n) ∧ True ∧ True) ∨ (¬ (wcode D x.n x.bytes = 0) ∧ 0 ≤ x.n ∧ ¬ (x.n < 5) ∧ True) ∨ (¬ (wcode D x.n x.bytes = 0) ∧ 0 ≤ x.n ∧ x.n < 5 ∧ ¬ ((x.size : Int) = 512)) := by
    unfold wcode
    rw [hf5, x.bytes_length]
    by_cases h1 : 0 ≤ x.n
    · by_cases h2 : x.n < 5
      · by_cases h3 : x.size = 512
        · left; rw [if_neg (by omega), if_pos h3]; omega
        · right; right; right; rw [if_neg (by omega), if_neg h3]; omega
      · right; right; left; rw [if_pos (by omega)]; exact ⟨by omega, h1, h2, trivial⟩
    · right; left; rw [if_pos (by omega)]; exact ⟨by omega, h1, trivial, trivial⟩
  have hWas7 := (hwas6.grow hg7).has
  have hNow7 := hnow.has
  have hBv7 := (Has.own hbv6).grow hg7
  have hb7 := hg7.gheap hb6
  have hsz := x.size_le
  have hblen := x.bytes_length
  have hil5 : D.image.length = 5 := by rw [D.image_length, hf5]
  have hnl5 : (wdone D x.n x.bytes).image.length = 5 := by rw [Dsk.image_length, wdone_first, hf5]
  have hnow512 := hd6.ok.image
  refine loop_rule (fun e w' => ∃ i : Nat, i ≤ 5 ∧ e 13 = .int .i64 i ∧ e 3 = .pointer (some ⟨xb, 0, none⟩) ∧ e 5 = .pointer (some ⟨p, 0, none⟩) ∧ e 8 = wasv ∧ e 9 = safev ∧ e 10 = bv ∧ e 11 = .int .i64 (wcode D x.n x.bytes) ∧ e 12 = nowv ∧ Grow w7 w') (fun e _ => 5 - (intOf (e 13)).toNat)
    ⟨0, by omega, by simp [upd, updO, ev], by simp [upd, updO, ev], by simp [upd, updO, ev], by simp [upd, updO, ev], by simp [upd, updO, ev], by simp [upd, updO, ev], by simp [upd, updO, ev], by simp [upd, updO, ev], Keep.refl _ _⟩ ?_
  rintro e w8 ⟨i, hi, e13, e3, e5, e8, e9, e10, e11, e12, hg8⟩
  have hb8 := hg8.gheap hb7
  have hcn8 : w8.cell? ⟨xb, 1, none⟩ = some (.int .i64 x.n) := by rw [cell_block hb8]; rfl
  by_cases hlt : i < 5
  · have hlt' : ((i : Int) < 5) := by omega
    obtain ⟨wa, wu, hwa, hwac, hwu⟩ := (hWas7.grow hg8).get (i := i) (by omega)
    obtain ⟨na, nu, hna, hnac, hnu⟩ := (hNow7.grow hg8).get (i := i) (by omega)
    have hl := hlaw i hlt
    rw [List.getElem?_eq_getElem (by omega)] at hl
    have hl := Option.some.inj hl
    have hn512 := hnow512 _ (List.getElem_mem (show i < (wdone D x.n x.bytes).image.length by omega))
    by_cases hc : wcode D x.n x.bytes = 0
    · by_cases hin : (i : Int) = x.n
      · rw [if_pos ⟨hc, hin⟩] at hl
        have hin2 : ((i : Int) = x.n) = True := by simp [hin]
        simp (maxSteps := 1000000) (disch := omega) only [F5_L0, ↓sy1, sy2, sy3, readOK, implies_true, forall_const, Nat.reduceEqDiff, ↓reduceIte, Option.map_some, Option.map_none, List.map_cons, List.map_nil, oneOf, if_true, if_false, Nat.reduceAdd, Nat.reduceMul, Option.isNone_some, Option.isNone_none, List.getElem?_toArray, List.getElem?_cons_zero, List.getElem?_cons_succ, reduceCtorEq, e13, e3, e5, e8, e9, e10, e11, e12, hlt', hwa, hwac, hcn8, hc, hin2, decide_true, hna, hnac]
        refine call0 (sameBytes_spec nu bv _ _ w8 hnu (hBv7.grow hg8) (by omega)) ?_
        rintro _ w9 ⟨rfl, hg9⟩
        simp (maxSteps := 1000000) (disch := omega) only [↓sy1, sy2, sy3, readOK, implies_true, forall_const, Nat.reduceEqDiff, ↓reduceIte, Option.map_some, Option.map_none, List.map_cons, List.map_nil, oneOf, if_true, if_false, Nat.reduceAdd, Nat.reduceMul, Option.isNone_some, Option.isNone_none, List.getElem?_toArray, List.getElem?_cons_zero, List.getElem?_cons_succ, reduceCtorEq, e13, e3, e5, e8, e9, e10, e11, e12, hl, decide_true]
        refine R_out ⟨⟨i + 1, by omega, rfl, by rw [hc], hg8.trans hg9⟩, ?_⟩
        simp only [intOf]; omega
      · rw [if_neg (fun h => hin h.2)] at hl
        simp (maxSteps := 1000000) (disch := omega) only [F5_L0, ↓sy1, sy2, sy3, readOK, implies_true, forall_const, Nat.reduceEqDiff, ↓reduceIte, Option.map_some, Option.map_none, List.map_cons, List.map_nil, oneOf, if_true, if_false, Nat.reduceAdd, Nat.reduceMul, Option.isNone_some, Option.isNone_none, List.getElem?_toArray, List.getElem?_cons_zero, List.getElem?_cons_succ, reduceCtorEq, e13, e3, e5, e8, e9, e10, e11, e12, hlt', hwa, hwac, hcn8, hc, hin, decide_true, decide_false, hna, hnac]
        refine call0 (sameBytes_spec nu wu _ _ w8 hnu hwu (by omega)) ?_
        rintro _ w9 ⟨rfl, hg9⟩
        simp (maxSteps := 1000000) (disch := omega) only [↓sy1, sy2, sy3, readOK, implies_true, forall_const, Nat.reduceEqDiff, ↓reduceIte, Option.map_some, Option.map_none, List.map_cons, List.map_nil, oneOf, if_true, if_false, Nat.reduceAdd, Nat.reduceMul, Option.isNone_some, Option.isNone_none, List.getElem?_toArray, List.getElem?_cons_zero, List.getElem?_cons_succ, reduceCtorEq, e13, e3, e5, e8, e9, e10, e11, e12, hl, decide_true]
        refine R_out ⟨⟨i + 1, by omega, rfl, by rw [hc], hg8.trans hg9⟩, ?_⟩
        simp only [intOf]; omega
    · rw [if_neg (fun h => hc h.1)] at hl
      simp (maxSteps := 1000000) (disch := omega) only [F5_L0, ↓sy1, sy2, sy3, readOK, implies_true, forall_const, Nat.reduceEqDiff, ↓reduceIte, Option.map_some, Option.map_none, List.map_cons, List.map_nil, oneOf, if_true, if_false, Nat.reduceAdd, Nat.reduceMul, Option.isNone_some, Option.isNone_none, List.getElem?_toArray, List.getElem?_cons_zero, List.getElem?_cons_succ, reduceCtorEq, e13, e3, e5, e8, e9, e10, e11, e12, hlt', hwa, hwac, hcn8, hc, decide_true, decide_false, hna, hnac]
      refine call0 (sameBytes_spec nu wu _ _ w8 hnu hwu (by omega)) ?_
      rintro _ w9 ⟨rfl, hg9⟩
      simp (maxSteps := 1000000) (disch := omega) only [↓sy1, sy2, sy3, readOK, implies_true, forall_const, Nat.reduceEqDiff, ↓reduceIte, Option.map_some, Option.map_none, List.map_cons, List.map_nil, oneOf, if_true, if_false, Nat.reduceAdd, Nat.reduceMul, Option.isNone_some, Option.isNone_none, List.getElem?_toArray, List.getElem?_cons_zero, List.getElem?_cons_succ, reduceCtorEq, e13, e3, e5, e8, e9, e10, e11, e12, hl, decide_true]
      refine R_out ⟨⟨i + 1, by omega, rfl, hg8.trans hg9⟩, ?_⟩
      simp only [intOf]; omega
  · have hlt' : ¬ ((i : Int) < 5) := by omega
    have hlenb : ∀ w2, lenF w2 0 bv = some (.int .i64 x.size) := fun w2 => by rw [hBv7.lenB, hblen]
    have hd8 := (hd6.grow hg7).grow hg8
    have hS := ((hsafe6.grow hg7).grow hg8).has
    have hsl := D.safe_length
    rcases hcase with ⟨q1, q2, q3, q4⟩ | ⟨q1, q2, q3, q4⟩ | ⟨q1, q2, q3, q4⟩ | ⟨q1, q2, q3, q4⟩
    all_goals
      simp (maxSteps := 1000000) (disch := omega) only [F5_L0, ↓sy1, sy2, sy3, readOK, implies_true, forall_const, Nat.reduceEqDiff, ↓reduceIte, Option.map_some, Option.map_none, List.map_cons, List.map_nil, oneOf, if_true, if_false, Nat.reduceAdd, Nat.reduceMul, Option.isNone_some, Option.isNone_none, List.getElem?_toArray, List.getElem?_cons_zero, List.getElem?_cons_succ, reduceCtorEq, e13, e3, e5, e8, e9, e10, e11, e12, hlt', hcn8, hlenb, q1, q2, q3, q4, decide_true, decide_false]
      refine call0 (safe_spec hd8) ?_
      rintro sv w9 ⟨hsv, hg9⟩
      simp (maxSteps := 1000000) (disch := omega) only [↓sy1, sy2, sy3, readOK, implies_true, forall_const, Nat.reduceEqDiff, ↓reduceIte, Option.map_some, Option.map_none, List.map_cons, List.map_nil, oneOf, if_true, if_false, Nat.reduceAdd, Nat.reduceMul, Option.isNone_some, Option.isNone_none, List.getElem?_toArray, List.getElem?_cons_zero, List.getElem?_cons_succ, reduceCtorEq, e13, e3, e5, e8, e9, e10, e11, e12]
      rw [hsafeD] at hsv
      refine call0 (sameAll_spec sv safev _ _ w9 hsv.has (hS.grow hg9) (by omega) (.of512 hokD.safe)) ?_
      rintro _ w10 ⟨rfl, hg10⟩
      simp (maxSteps := 1000000) (disch := omega) only [↓sy1, sy2, sy3, readOK, implies_true, forall_const, Nat.reduceEqDiff, ↓reduceIte, Option.map_some, Option.map_none, List.map_cons, List.map_nil, oneOf, if_true, if_false, Nat.reduceAdd, Nat.reduceMul, Option.isNone_some, Option.isNone_none, List.getElem?_toArray, List.getElem?_cons_zero, List.getElem?_cons_succ, reduceCtorEq, decide_true]
      exact R_out ⟨rfl, (((hgw6.trans hg7).trans hg8).trans hg9).trans hg10⟩
end Go.Proofs.Ytaeejceljgjdkaa
